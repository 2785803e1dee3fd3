/- Part 6 of the proof. -/
import Derived.Test.YtnogehmgpfpjmaaGreatDoorJ01
import Derived.Test.YtnogehmgpfpjmaaGreatDoorJ02
import Derived.Test.YtnogehmgpfpjmaaGreatDoorJ03
import Derived.Test.YtnogehmgpfpjmaaGreatDoorJ04
import Derived.Test.YtnogehmgpfpjmaaGreatDoorJ05
import Derived.ChangeArms
import Derived.Deep.Slices
import Derived.Deep.Strs
import Derived.WalkKit
import Derived.ProofKit
import Derived.OpenShut
import Derived.ShutString
import Derived.ChangeOld
import Derived.Below
import Derived.Test.YtnogehmgpfpjmaaGreatDoorCards
import Derived.Test.YtnogehmgpfpjmaaGreatDoorTie
import Derived.HandedShaped
import Derived.LaidMore
import Derived.Lay
import Derived.Stop.Joined
import Derived.Shelf.Vars
import Derived.Lib.LaidU8
import Derived.SevenTiedAt
set_option linter.unusedVariables false
set_option linter.unusedSimpArgs false
section
namespace Go.Proofs.YtnogehmgpfpjmaaGreatDoor
open Go Go.Ab Go.Dk
section
variable {S : List UInt8} {o : Option (T × List UInt8)} {t : T} {k : Int}
theorem RQ.cases (h : RQ S o t k) : (k = -1 ∧ o = none) ∨ (∃ j : Nat, k = j ∧ S.length ≤ j ∧ o = some (t, [])) ∨ (∃ (j : Nat) (z : UInt8) (r : List UInt8), k = j ∧ S.drop j = z :: r ∧ (o = some (t, z :: r) ∨ (o = none ∧ digB z = true))) := by
 rcases h with ⟨j, h1, h2, h3⟩ | ⟨h1, h2⟩ | ⟨h1, j, y, r, h2, h3, h4⟩
 ·cases hd : S.drop j with
  | nil => rw [hd] at h1; exact .inr (.inl ⟨j, h3, dp_nil hd, h1⟩)
  | cons z r => rw [hd] at h1; exact .inr (.inr ⟨j, z, r, h3, hd, .inl h1⟩)
 ·exact .inl ⟨h2, h1⟩
 ·exact .inr (.inr ⟨j, y, r, h2, h3, .inr ⟨h1, h4⟩⟩)
theorem RQ.map (h : RQ S o t k) (f : T → T) : RQ S (o.map fun b => (f b.1, b.2)) (f t) k := by
 rcases h with ⟨j, h1, h2, h3⟩ | ⟨h1, h2⟩ | ⟨h1, j, y, r, h2, h3, h4⟩
 ·subst h1; exact .inl ⟨j, rfl, h2, h3⟩
 ·subst h1; exact .inr (.inl ⟨rfl, h2⟩)
 ·subst h1; exact .inr (.inr ⟨rfl, j, y, r, h2, h3, h4⟩)
theorem by_int {y : UInt8} {c : UInt8} {v : Int} (hv : (c.toNat : Int) = v) : decide ((y.toNat : Int) = v) = decide (y = c) := by
 subst hv
 by_cases h : y = c
 ·subst h; simp
 ·rw [decide_eq_false h, decide_eq_false (fun e => h (byte_eq.1 e))]
theorem eat_not {z c : UInt8} {r : List UInt8} {α : Type} {f : T → List UInt8 → Option α} (h : o = some (t, z :: r) ∨ (o = none ∧ digB z = true)) (hz : z ≠ c) : (o.bind fun a => (eat c a.2).bind fun r => f a.1 r) = none := by
 rcases h with rfl | ⟨rfl, _⟩
 ·simp [eat, hz]
 ·rfl
theorem eat_yes {z c : UInt8} {r : List UInt8} (h : o = some (t, z :: r) ∨ (o = none ∧ digB z = true)) (hz : z = c) (hc : digB c = false) : o = some (t, c :: r) := by
 rcases h with rfl | ⟨_, h2⟩
 ·rw [hz]
 ·rw [hz, hc] at h2; cases h2
theorem ext_one {j : Nat} {z : UInt8} {r : List UInt8} (h : S.drop j = z :: r) : (bytesOf S).extract ((j : Int)).toNat ((j : Int) + 1).toNat = bytesOf [z] := by
 rw [by_ext, Int.toNat_natCast, show ((j : Int) + 1).toNat = j + 1 by omega, List.drop_take, h]; simp
theorem bnd_some {s s2 : List UInt8} {y : UInt8} (h : bnd s = some (y, s2)) : s = y :: 58 :: s2 := by
 unfold bnd at h
 split at h
 ·split at h
  ·rename_i h1; cases h; rw [h1.2]
  ·cases h
 ·cases h
end
theorem kids_loop {S e : List UInt8} {d : Nat} {last : UInt8} {n many : Nat} (hS : S.length ≤ 1099511627776) (hl : digB last = false) (hm : many ≤ 10)
   (ip : ∀ at_ : Nat, at_ ≤ S.length → RP S (rdN d e (S.drop at_)) (FF n 25 [sr S, nt at_, sr e.reverse, nt d] [])) :
   ∀ g m (i at_ : Nat) (out : List T), g < m → i + g = many → at_ ≤ S.length → out.length ≤ i →
   ∃ ts k, L_spec_l6Kids_0 n m (bytesOf S) at_ (bytesOf e.reverse) d many (last.toNat : Int) i out = some ([tms ts, nt k], []) ∧
    ((∃ ys j, rdS (rdN d e) last g (S.drop at_) = some (ys, S.drop j) ∧ j ≤ S.length ∧ ts = out ++ ys ∧ k = (j : Int)) ∨ (rdS (rdN d e) last g (S.drop at_) = none ∧ k = -1)) := by
 intro g
 induction g with
 | zero =>
  intro m i at_ out hm' hi ha ho
  obtain ⟨m, rfl⟩ := pos_succ (show 0 < m by omega)
  rw [L_spec_l6Kids_0_eq, decide_eq_false (show ¬ (i : Int) < (many : Int) by omega), cond_false]
  exact ⟨out, at_, rfl, .inl ⟨[], at_, rfl, ha, by simp, rfl⟩⟩
 | succ g ih =>
  intro m i at_ out hm' hi ha ho
  obtain ⟨m, rfl⟩ := pos_succ (show 0 < m by omega)
  obtain ⟨t, k, hr, hq⟩ := ip at_ ha
  have hw : IntKind.i64.wrap ((i : Int) + 1) = ((i + 1 : Nat) : Int) := by rw [wrap64 (by omega)]; omega
  rw [L_spec_l6Kids_0_eq, decide_eq_true (show (i : Int) < (many : Int) by omega), cond_true, hw]
  simp only [sr, nt] at hr
  rw [hr]
  simp only [evt]
  have room : roomB (out ++ [t]).length = true := roomB_ok (by simp; omega)
  rw [rdS]
  rcases hq.cases with ⟨rfl, ho'⟩ | ⟨j, rfl, hj, ho'⟩ | ⟨j, z, r, rfl, hd, ho'⟩
  ·rw [ho', show decide ((-1 : Int) < 0) = true from rfl, cond_true]
   exact ⟨[], -1, rfl, .inr ⟨rfl, rfl⟩⟩
  ·rw [ho', decide_eq_false (show ¬ (j : Int) < 0 by omega), cond_false, by_size, decide_eq_true (show ((S.length : Nat) : Int) ≤ (j : Int) by omega), cond_true]
   exact ⟨[], -1, rfl, .inr ⟨by simp [eat], rfl⟩⟩
  ·have hlt := dp_lt hd
   have hwj : IntKind.i64.wrap ((j : Int) + 1) = ((j + 1 : Nat) : Int) := by rw [wrap64 (by omega)]; omega
   rw [decide_eq_false (show ¬ (j : Int) < 0 by omega), cond_false, show decide ((((bytesOf S).size : Nat) : Int) ≤ (j : Int)) = false from by rw [by_size]; exact decide_eq_false (by omega), cond_false]
   rw [dp_in hd, dp_at hd, by_int (c := 44) (v := 44) rfl, by_int (c := last) (v := (last.toNat : Int)) rfl, hwj, room, cond_true]
   simp only [cond_true]
   cases g with
   | zero =>
    rw [decide_eq_false (show ¬ ((i + 1 : Nat) : Int) < (many : Int) by omega), cond_false, decide_eq_true (show ((i + 1 : Nat) : Int) = (many : Int) by omega), cond_true]
    simp only [if_true]
    by_cases hz : z = last
    ·have := eat_yes ho' hz hl
     rw [decide_eq_true hz, Bool.not_true, cond_false, this]
     obtain ⟨ts, k, h1, h2⟩ := ih m (i + 1) (j + 1) (out ++ [t]) (by omega) (by omega) (by omega) (by simp; omega)
     refine ⟨ts, k, h1, ?_⟩
     rw [dp_tl hd] at h2
     simp only [eat, if_true, Option.bind_some]
     rcases h2 with ⟨ys, j2, h2, h3, h4, h5⟩ | ⟨h2, h3⟩
     ·exact .inl ⟨t :: ys, j2, by rw [h2]; rfl, h3, by rw [h4]; simp, h5⟩
     ·exact .inr ⟨by rw [h2]; rfl, h3⟩
    ·rw [decide_eq_false hz, Bool.not_false, cond_true]
     exact ⟨[], -1, rfl, .inr ⟨eat_not (f := fun a r => (rdS (rdN d e) last 0 r).map fun y => (a :: y.1, y.2)) ho' hz, rfl⟩⟩
   | succ g =>
    rw [decide_eq_true (show ((i + 1 : Nat) : Int) < (many : Int) by omega), cond_true, decide_eq_false (show ¬ ((i + 1 : Nat) : Int) = (many : Int) by omega), cond_false]
    simp only [if_neg (show ¬ g + 1 = 0 by omega)]
    by_cases hz : z = 44
    ·have := eat_yes ho' hz rfl
     rw [decide_eq_true hz, Bool.not_true, cond_false, this]
     obtain ⟨ts, k, h1, h2⟩ := ih m (i + 1) (j + 1) (out ++ [t]) (by omega) (by omega) (by omega) (by simp; omega)
     refine ⟨ts, k, h1, ?_⟩
     rw [dp_tl hd] at h2
     simp only [eat, if_true, Option.bind_some]
     rcases h2 with ⟨ys, j2, h2, h3, h4, h5⟩ | ⟨h2, h3⟩
     ·exact .inl ⟨t :: ys, j2, by rw [h2]; rfl, h3, by rw [h4]; simp, h5⟩
     ·exact .inr ⟨by rw [h2]; rfl, h3⟩
    ·rw [decide_eq_false hz, Bool.not_false, cond_true]
     exact ⟨[], -1, rfl, .inr ⟨eat_not (f := fun a r => (rdS (rdN d e) last (g + 1) r).map fun y => (a :: y.1, y.2)) ho' hz, rfl⟩⟩
theorem f_l6Kids {S e : List UInt8} {d : Nat} {last : UInt8} {n many at_ : Nat} (hn : 20 ≤ n) (hS : S.length ≤ 1099511627776) (hl : digB last = false) (hm : many ≤ 10) (ha : at_ ≤ S.length)
   (ip : ∀ at_ : Nat, at_ ≤ S.length → RP S (rdN d e (S.drop at_)) (FF n 25 [sr S, nt at_, sr e.reverse, nt d] [])) :
   ∃ ts k, FF (n + 1) 99 [sr S, nt at_, sr e.reverse, nt d, nt many, .one (.int .u8 (last.toNat : Int))] [] = some ([tms ts, nt k], []) ∧
    ((∃ j, rdS (rdN d e) last many (S.drop at_) = some (ts, S.drop j) ∧ j ≤ S.length ∧ k = (j : Int)) ∨ (rdS (rdN d e) last many (S.drop at_) = none ∧ k = -1)) := by
 obtain ⟨ts, k, h1, h2⟩ := kids_loop hS hl hm ip many n 0 at_ [] (by omega) (by omega) ha (by simp)
 refine ⟨ts, k, ?_, ?_⟩
 ·rw [E_spec_l6Kids]; exact h1
 ·rcases h2 with ⟨ys, j, h2, h3, h4, h5⟩ | h
  ·rw [List.nil_append] at h4; subst h4; exact .inl ⟨j, h2, h3, h5⟩
  ·exact .inr h
section
variable {S e : List UInt8} {d n : Nat} (hn : 20 ≤ n) (hS : S.length ≤ 1099511627776)
include hn hS
theorem closing {o : Option (T × List UInt8)} {res : OR} {kk : Int} {t1 : T} (h : RP S o res) :
   RP S (o.bind fun b => (eat 41 b.2).map fun r => (T.mk kk 0 [t1, b.1], r)) (res.bind fun x8 => rTerm x8.1 fun x9 x10 => rInt .i64 x10 fun x11 x12 => nilV x12 (nilO x8.2
    (cond (decide (x11 < 0)) (some ([.agg [.int .i64 0, .int .i64 0, .fr (.ts [])], .one (.int .i64 (-1))], []))
    (cond (decide ((((bytesOf S).size : Nat) : Int) ≤ x11)) (some ([.agg [.int .i64 0, .int .i64 0, .fr (.ts [])], .one (.int .i64 (-1))], []))
    (cond (decide (0 ≤ x11) && decide (x11 < (((bytesOf S).size : Nat) : Int)))
    (cond (!decide (((byteAt (bytesOf S) x11.toNat).toNat : Int) = 41)) (some ([.agg [.int .i64 0, .int .i64 0, .fr (.ts [])], .one (.int .i64 (-1))], []))
    ((FF n 53 [.one (.int .i64 kk), .one (.fr (.ts [t1, T.mk x9.k x9.n x9.kids]))] []).bind fun x13 => rTerm x13.1 fun x14 x15 => nilV x15 (nilO x13.2
      (some ([.agg [.int .i64 x14.k, .int .i64 x14.n, .fr (.ts x14.kids)], .one (.int .i64 (IntKind.i64.wrap (x11 + 1)))], [])))))
    none))))) := by
 obtain ⟨t, k, hr, hq⟩ := h
 rw [hr]
 simp only [evt]
 rcases hq.cases with ⟨rfl, ho'⟩ | ⟨j, rfl, hj, ho'⟩ | ⟨j, z, r, rfl, hd, ho'⟩
 ·rw [ho', show decide ((-1 : Int) < 0) = true from rfl, cond_true]
  exact RP.fail (t := .mk 0 0 []) rfl
 ·rw [ho', decide_eq_false (show ¬ (j : Int) < 0 by omega), cond_false, by_size, decide_eq_true (show ((S.length : Nat) : Int) ≤ (j : Int) by omega), cond_true]
  exact RP.fail (t := .mk 0 0 []) rfl
 ·have hlt := dp_lt hd
  have hwj : IntKind.i64.wrap ((j : Int) + 1) = ((j + 1 : Nat) : Int) := by rw [wrap64 (by omega)]; omega
  rw [decide_eq_false (show ¬ (j : Int) < 0 by omega), cond_false, show decide ((((bytesOf S).size : Nat) : Int) ≤ (j : Int)) = false from by rw [by_size]; exact decide_eq_false (by omega), cond_false]
  rw [dp_in hd, cond_true, dp_at hd, by_int (c := 41) (v := 41) rfl, hwj, f_l1Node (by omega) _ _ (by simp)]
  simp only [evt]
  by_cases hz : z = 41
  ·have := eat_yes ho' hz rfl
   rw [decide_eq_true hz, Bool.not_true, cond_false, this]
   simp only [eat, if_true, Option.bind_some, Option.map_some]
   exact RP.ok (j := j + 1) rfl (by omega) (dp_tl hd).symm
  ·rw [decide_eq_false hz, Bool.not_false, cond_true]
   have := eat_not (f := fun a r => some (T.mk kk 0 [t1, a], r)) ho' hz
   simp only [Option.map_eq_bind, Function.comp_def]
   rw [this]
   exact RP.fail (t := .mk 0 0 []) rfl
theorem f_l6Square {at_ : Nat} (he : e.length ≤ 1000) (ha : at_ ≤ S.length)
   (ip : ∀ (e2 : List UInt8) (at_ : Nat), e2.length ≤ e.length + 1 → at_ ≤ S.length → RP S (rdN d e2 (S.drop at_)) (FF n 25 [sr S, nt at_, sr e2.reverse, nt d] [])) :
   RP S ((bnd (S.drop at_)).bind fun x => (rdN d e x.2).bind fun a => (eat 93 a.2).bind fun r => (rdN d (x.1 :: e) r).map fun b => (.mk 4 0 [a.1, b.1], b.2)) (FF (n + 1) 55 [sr S, nt at_, sr e.reverse, nt d] []) := by
 rw [E_spec_l6Square, f_l6Colon (by omega) hS ha]
 simp only [evt]
 cases hb : bnd (S.drop at_) with
 | none =>
  rw [show (Option.isSome (none : Option (UInt8 × List UInt8))) = false from rfl, Bool.not_false, cond_true]
  exact RP.fail (t := .mk 0 0 []) rfl
 | some x =>
  obtain ⟨y, s2⟩ := x
  have hs := bnd_some hb
  have h2 := dp_tl (dp_tl hs)
  have hlt := dp_lt hs
  have hlt2 := dp_lt (dp_tl hs)
  have hw2 : IntKind.i64.wrap ((at_ : Int) + 2) = ((at_ + 1 + 1 : Nat) : Int) := by rw [wrap64 (by omega)]; omega
  have hw1 : IntKind.i64.wrap ((at_ : Int) + 1) = (at_ : Int) + 1 := wrap64 (by omega)
  obtain ⟨t, k, hr, hq⟩ := ip e (at_ + 1 + 1) (by omega) (by omega)
  rw [h2] at hq
  simp only [sr, nt] at hr
  rw [show (Option.isSome (some (y, s2) : Option (UInt8 × List UInt8))) = true from rfl, Bool.not_true, cond_false, hw2, hr]
  simp only [evt]
  rcases hq.cases with ⟨rfl, ho'⟩ | ⟨j, rfl, hj, ho'⟩ | ⟨j, z, r, rfl, hd, ho'⟩
  ·rw [ho', show decide ((-1 : Int) < 0) = true from rfl, cond_true]
   exact RP.fail (t := .mk 0 0 []) rfl
  ·rw [ho', decide_eq_false (show ¬ (j : Int) < 0 by omega), cond_false, by_size, decide_eq_true (show ((S.length : Nat) : Int) ≤ (j : Int) by omega), cond_true]
   exact RP.fail (t := .mk 0 0 []) rfl
  ·have hlt := dp_lt hd
   have hwj : IntKind.i64.wrap ((j : Int) + 1) = ((j + 1 : Nat) : Int) := by rw [wrap64 (by omega)]; omega
   rw [decide_eq_false (show ¬ (j : Int) < 0 by omega), cond_false, show decide ((((bytesOf S).size : Nat) : Int) ≤ (j : Int)) = false from by rw [by_size]; exact decide_eq_false (by omega), cond_false]
   rw [dp_in hd, cond_true, dp_at hd, by_int (c := 93) (v := 93) rfl, hwj, hw1, ext_one hs, by_app]
   by_cases hz : z = 93
   ·have := eat_yes ho' hz rfl
    obtain ⟨t2, k2, hr2, hq2⟩ := ip (y :: e) (j + 1) (by simp) (by omega)
    simp only [sr, nt, List.reverse_cons] at hr2
    rw [dp_tl hd] at hq2
    have hin : Go.Ab.inB at_ ((at_ : Int) + 1) (bytesOf S).size = true := by rw [by_size]; simp only [inB, Bool.and_eq_true, decide_eq_true_eq]; omega
    have hsz : decide ((bytesOf e.reverse).size + (bytesOf [y]).size ≤ 9223372036854775807) = true := by rw [by_size, by_size]; simp; omega
    rw [decide_eq_true hz, Bool.not_true, cond_false, this, hin, cond_true, hsz, cond_true, hr2]
    simp only [evt]
    rw [f_l1Node (by omega) _ _ (by simp)]
    simp only [evt]
    simp only [eat, if_true, Option.bind_some]
    exact ⟨_, _, rfl, hq2.map fun b => .mk 4 0 [t, b]⟩
   ·rw [decide_eq_false hz, Bool.not_false, cond_true]
    have := eat_not (f := fun a r => (rdN d (y :: e) r).map fun b => (T.mk 4 0 [a, b.1], b.2)) ho' hz
    show RP S ((rdN d e s2).bind fun a => (eat 93 a.2).bind fun r => (rdN d (y :: e) r).map fun b => (T.mk 4 0 [a.1, b.1], b.2)) _
    rw [this]
    exact RP.fail (t := .mk 0 0 []) rfl
end
end Go.Proofs.YtnogehmgpfpjmaaGreatDoor
end
section
namespace Go.Proofs.YtnogehmgpfpjmaaGreatDoor
open Go Go.Ab Go.Dk
section
variable {S e : List UInt8} {d n : Nat} (hn : 20 ≤ n) (hS : S.length ≤ 1099511627776)
include hn hS
theorem f_l6Round {at_ : Nat} (he : e.length ≤ 1000) (ha : at_ ≤ S.length)
   (ip : ∀ (e2 : List UInt8) (at_ : Nat), e2.length ≤ e.length + 1 → at_ ≤ S.length → RP S (rdN d e2 (S.drop at_)) (FF n 25 [sr S, nt at_, sr e2.reverse, nt d] [])) :
   RP S (match bnd (S.drop at_) with
    | some (x, s) => (rdN d e s).bind fun a => (match a.2 with
     | y :: r => if y = 62 then (rdN d (x :: e) r).bind fun b => (eat 41 b.2).map fun r => (.mk 3 0 [a.1, b.1], r)
      else if y = 42 then (rdN d (x :: e) r).bind fun b => (eat 41 b.2).map fun r => (.mk 13 0 [a.1, b.1], r) else none
     | [] => none)
    | none => (rdN d e (S.drop at_)).bind fun a => (eat 32 a.2).bind fun r => (rdN d e r).bind fun b => (eat 41 b.2).map fun r => (.mk 5 0 [a.1, b.1], r)) (FF (n + 1) 54 [sr S, nt at_, sr e.reverse, nt d] []) := by
 rw [E_spec_l6Round, f_l6Colon (by omega) hS ha]
 simp only [evt]
 cases hb : bnd (S.drop at_) with
 | none =>
  rw [show (Option.isSome (none : Option (UInt8 × List UInt8))) = false from rfl, cond_false]
  obtain ⟨t, k, hr, hq⟩ := ip e at_ (by omega) ha
  simp only [sr, nt] at hr
  rw [hr]
  simp only [evt]
  rcases hq.cases with ⟨rfl, ho'⟩ | ⟨j, rfl, hj, ho'⟩ | ⟨j, z, r, rfl, hd, ho'⟩
  ·rw [ho', show decide ((-1 : Int) < 0) = true from rfl, cond_true]
   exact RP.fail (t := .mk 0 0 []) rfl
  ·rw [ho', decide_eq_false (show ¬ (j : Int) < 0 by omega), cond_false, by_size, decide_eq_true (show ((S.length : Nat) : Int) ≤ (j : Int) by omega), cond_true]
   exact RP.fail (t := .mk 0 0 []) rfl
  ·have hlt := dp_lt hd
   have hwj : IntKind.i64.wrap ((j : Int) + 1) = ((j + 1 : Nat) : Int) := by rw [wrap64 (by omega)]; omega
   have hp2 := ip e (j + 1) (by omega) (by omega)
   rw [dp_tl hd] at hp2
   rw [decide_eq_false (show ¬ (j : Int) < 0 by omega), cond_false, show decide ((((bytesOf S).size : Nat) : Int) ≤ (j : Int)) = false from by rw [by_size]; exact decide_eq_false (by omega), cond_false]
   rw [dp_in hd, cond_true, dp_at hd, by_int (c := 32) (v := 32) rfl, hwj]
   by_cases hz : z = 32
   ·have := eat_yes ho' hz rfl
    rw [decide_eq_true hz, cond_true, this]
    simp only [eat, if_true, Option.bind_some]
    have hc := closing (kk := 5) (t1 := t) hn hS hp2
    simp only [evt] at hc ⊢
    exact hc
   ·rw [decide_eq_false hz, cond_false]
    obtain ⟨t2, k2, hr2, _⟩ := hp2
    simp only [sr, nt] at hr2
    rw [hr2]
    simp only [evt]
    have := eat_not (f := fun a r => (rdN d e r).bind fun b => (eat 41 b.2).map fun r => (T.mk 5 0 [a, b.1], r)) ho' hz
    rw [this]
    exact RP.fail (t := .mk 0 0 []) rfl
 | some x =>
  obtain ⟨y, s2⟩ := x
  have hs := bnd_some hb
  have h2 := dp_tl (dp_tl hs)
  have hlt := dp_lt hs
  have hlt2 := dp_lt (dp_tl hs)
  have hw2 : IntKind.i64.wrap ((at_ : Int) + 2) = ((at_ + 1 + 1 : Nat) : Int) := by rw [wrap64 (by omega)]; omega
  have hw1 : IntKind.i64.wrap ((at_ : Int) + 1) = (at_ : Int) + 1 := wrap64 (by omega)
  obtain ⟨t, k, hr, hq⟩ := ip e (at_ + 1 + 1) (by omega) (by omega)
  rw [h2] at hq
  simp only [sr, nt] at hr
  have hin : Go.Ab.inB at_ ((at_ : Int) + 1) (bytesOf S).size = true := by rw [by_size]; simp only [inB, Bool.and_eq_true, decide_eq_true_eq]; omega
  have hsz : decide ((bytesOf e.reverse).size + (bytesOf [y]).size ≤ 9223372036854775807) = true := by rw [by_size, by_size]; simp; omega
  rw [show (Option.isSome (some (y, s2) : Option (UInt8 × List UInt8))) = true from rfl, cond_true, hw2, hw1, hin, cond_true, ext_one hs, hsz, cond_true, hr, by_app]
  simp only [evt]
  rcases hq.cases with ⟨rfl, ho'⟩ | ⟨j, rfl, hj, ho'⟩ | ⟨j, z, r, rfl, hd, ho'⟩
  ·rw [ho', show decide ((-1 : Int) < 0) = true from rfl, cond_true]
   exact RP.fail (t := .mk 0 0 []) rfl
  ·rw [ho', decide_eq_false (show ¬ (j : Int) < 0 by omega), cond_false, by_size, decide_eq_true (show ((S.length : Nat) : Int) ≤ (j : Int) by omega), cond_true]
   exact RP.fail (t := .mk 0 0 []) rfl
  ·have hlt := dp_lt hd
   have hwj : IntKind.i64.wrap ((j : Int) + 1) = ((j + 1 : Nat) : Int) := by rw [wrap64 (by omega)]; omega
   have hp2 := ip (y :: e) (j + 1) (by simp) (by omega)
   rw [dp_tl hd, List.reverse_cons] at hp2
   rw [decide_eq_false (show ¬ (j : Int) < 0 by omega), cond_false, show decide ((((bytesOf S).size : Nat) : Int) ≤ (j : Int)) = false from by rw [by_size]; exact decide_eq_false (by omega), cond_false]
   rw [dp_in hd, cond_true, dp_at hd, by_int (c := 62) (v := 62) rfl, by_int (c := 42) (v := 42) rfl, hwj]
   by_cases hz : z = 62
   ·have := eat_yes ho' hz rfl
    rw [decide_eq_true hz, cond_true, this]
    simp only [if_true, Option.bind_some]
    have hc := closing (kk := 3) (t1 := t) hn hS hp2
    simp only [evt] at hc ⊢
    exact hc
   ·rw [decide_eq_false hz, cond_false, cond_true]
    by_cases hz2 : z = 42
    ·have := eat_yes ho' hz2 rfl
     rw [decide_eq_true hz2, cond_true, this]
     simp only [if_neg (show ¬ ((42 : UInt8) = 62) by decide), if_true, Option.bind_some]
     have hc := closing (kk := 13) (t1 := t) hn hS hp2
     simp only [evt] at hc ⊢
     exact hc
    ·rw [decide_eq_false hz2, cond_false]
     obtain ⟨t2, k2, hr2, _⟩ := hp2
     simp only [sr, nt] at hr2
     rw [hr2]
     simp only [evt]
     have : ((rdN d e s2).bind fun a => (match a.2 with
      | q :: r => if q = 62 then (rdN d (y :: e) r).bind fun b => (eat 41 b.2).map fun r => (T.mk 3 0 [a.1, b.1], r)
       else if q = 42 then (rdN d (y :: e) r).bind fun b => (eat 41 b.2).map fun r => (T.mk 13 0 [a.1, b.1], r) else none
      | [] => none)) = none := by
      rcases ho' with h | ⟨h, _⟩
      ·rw [h]; simp [hz, hz2]
      ·rw [h]; rfl
     show RP S ((rdN d e s2).bind fun a => (match a.2 with
      | q :: r => if q = 62 then (rdN d (y :: e) r).bind fun b => (eat 41 b.2).map fun r => (T.mk 3 0 [a.1, b.1], r)
       else if q = 42 then (rdN d (y :: e) r).bind fun b => (eat 41 b.2).map fun r => (T.mk 13 0 [a.1, b.1], r) else none
      | [] => none)) _
     rw [this]
     exact RP.fail (t := .mk 0 0 []) rfl
theorem f_l6Block {at_ : Nat} {c : UInt8} {s : List UInt8} (hd : S.drop at_ = c :: s) (he : e.length ≤ 1000) (hdm : d ≤ 1000)
   (ip : ∀ (at_ : Nat), at_ ≤ S.length → RP S (rdN d e (S.drop at_)) (FF n 25 [sr S, nt at_, sr e.reverse, nt d] [])) :
   RP S (if c = 60 then (rdS (rdN d e) 62 4 s).map fun y => (.mk 9 0 y.1, y.2)
   else if c = 123 then (rdS (rdN d e) 125 3 s).map fun y => (.mk 10 0 y.1, y.2)
   else if c = 124 then (rdS (rdN d e) 124 3 s).map fun y => (.mk 14 0 y.1, y.2)
   else if c = 64 then (eat 60 s).bind fun s => (rdS (rdN d e) 62 3 s).map fun y => (.mk 12 0 y.1, y.2)
   else none) (FF (n + 2) 57 [sr S, nt at_, sr e.reverse, nt ((d + 1 : Nat) : Int)] []) := by
 have hlt := dp_lt hd
 have ht := dp_tl hd
 have hw1 : IntKind.i64.wrap ((at_ : Int) + 1) = ((at_ + 1 : Nat) : Int) := by rw [wrap64 (by omega)]; omega
 have hw2 : IntKind.i64.wrap ((at_ : Int) + 2) = ((at_ + 1 + 1 : Nat) : Int) := by rw [wrap64 (by omega)]; omega
 have key : ∀ (kk : Int) (many a : Nat) (last : UInt8) (res : OR), digB last = false → many ≤ 10 → a ≤ S.length → res = (FF (n + 1) 99 [sr S, nt a, sr e.reverse, nt d, nt many, .one (.int .u8 (last.toNat : Int))] []).bind (fun x0 => rTs x0.1 fun x1 x2 => rInt .i64 x2 fun x3 x4 => nilV x4 (nilO x0.2 (some ([.agg [.int .i64 kk, .int .i64 0, .fr (.ts x1)], .one (.int .i64 x3)], [])))) →
    RP S ((rdS (rdN d e) last many (S.drop a)).map fun y => (.mk kk 0 y.1, y.2)) res := by
  intro kk many a last res h1 h2 h3 hres
  obtain ⟨ts, k, h4, h5⟩ := f_l6Kids hn hS h1 h2 h3 ip
  rw [hres, h4]
  simp only [evt]
  rcases h5 with ⟨j, h5, h6, h7⟩ | ⟨h5, h6⟩
  ·rw [h5, h7]; exact RP.ok (j := j) rfl h6 rfl
  ·rw [h5, h6]; exact RP.fail (t := .mk kk 0 ts) rfl
 have ht2 : ∀ z r, s = z :: r → S.drop (at_ + 1 + 1) = r := fun z r h => dp_tl (by rw [ht, h])
 have hwd : IntKind.i64.wrap (((d + 1 : Nat) : Int) - 1) = (d : Int) := by rw [wrap64 (by omega)]; omega
 rw [E_spec_l6Block, dp_in hd, cond_true, dp_at hd, by_int (c := 60) (v := 60) rfl, by_int (c := 123) (v := 123) rfl, by_int (c := 124) (v := 124) rfl, by_int (c := 64) (v := 64) rfl, hw1, hw2, hwd]
 by_cases h1 : c = 60
 ·rw [if_pos h1, decide_eq_true h1, cond_true]
  have := key 9 4 (at_ + 1) 62 _ rfl (by decide) (by omega) rfl
  rw [ht] at this; exact this
 rw [if_neg h1, decide_eq_false h1, cond_false]
 by_cases h2 : c = 123
 ·rw [if_pos h2, decide_eq_true h2, cond_true]
  have := key 10 3 (at_ + 1) 125 _ rfl (by decide) (by omega) rfl
  rw [ht] at this; exact this
 rw [if_neg h2, decide_eq_false h2, cond_false]
 by_cases h3 : c = 124
 ·rw [if_pos h3, decide_eq_true h3, cond_true]
  have := key 14 3 (at_ + 1) 124 _ rfl (by decide) (by omega) rfl
  rw [ht] at this; exact this
 rw [if_neg h3, decide_eq_false h3, cond_false]
 by_cases h4 : c = 64
 ·rw [if_pos h4, decide_eq_true h4, cond_true]
  cases s with
  | nil =>
   have := dp_nil ht
   rw [show decide (((at_ + 1 : Nat) : Int) < (((bytesOf S).size : Nat) : Int)) = false from by rw [by_size]; exact decide_eq_false (by omega), cond_false]
   exact RP.fail (t := .mk 0 0 []) rfl
  | cons z r =>
   have hlt2 := dp_lt ht
   rw [show decide (((at_ + 1 : Nat) : Int) < (((bytesOf S).size : Nat) : Int)) = true from by rw [by_size]; exact decide_eq_true (by omega), cond_true, Bool.and_true, decide_eq_true (show (0 : Int) ≤ ((at_ + 1 : Nat) : Int) by omega), cond_true, dp_at ht, by_int (c := 60) (v := 60) rfl]
   by_cases h5 : z = 60
   ·rw [decide_eq_true h5, cond_true]
    have := key 12 3 (at_ + 1 + 1) 62 _ rfl (by decide) (by omega) rfl
    rw [ht2 z r rfl] at this
    simp only [eat, if_pos h5, Option.bind_some]; exact this
   ·rw [decide_eq_false h5, cond_false]
    simp only [eat, if_neg h5, Option.bind_none]
    exact RP.fail (t := .mk 0 0 []) rfl
 rw [if_neg h4, decide_eq_false h4, cond_false]
 exact RP.fail (t := .mk 0 0 []) rfl
end
theorem RP.pass {S : List UInt8} {o : Option (T × List UInt8)} {res : OR} (h : RP S o res) : RP S o (res.bind fun x0 => rTerm x0.1 fun x1 x2 => rInt .i64 x2 fun x3 x4 => nilV x4 (nilO x0.2 (some ([.agg [.int .i64 x1.k, .int .i64 x1.n, .fr (.ts x1.kids)], .one (.int .i64 x3)], [])))) := by
 obtain ⟨t, k, hr, hq⟩ := h
 rw [hr]
 simp only [evt]
 exact ⟨t, k, rfl, hq⟩
theorem f_l6Parse {S : List UInt8} (hS : S.length ≤ 1099511627776) : ∀ (d : Nat), d ≤ 100 → ∀ {n : Nat} (e : List UInt8) (at_ : Nat), 1100 + 10 * d ≤ n → e.length + d ≤ 1000 → at_ ≤ S.length → RP S (rdN d e (S.drop at_)) (FF n 25 [sr S, nt at_, sr e.reverse, nt d] []) := by
 intro d
 induction d with
 | zero =>
  intro _ n e at_ hn he ha
  obtain ⟨n, rfl⟩ := pos_succ (show 0 < n by omega)
  rw [E_spec_l6Parse, show decide (((0 : Nat) : Int) < 1) = true from rfl, cond_true]
  exact RP.fail (t := .mk 0 0 []) rfl
 | succ d ih =>
  intro hdm n e at_ hn he ha
  obtain ⟨n, rfl⟩ := pos_succ (show 0 < n by omega)
  have start : decide (((d + 1 : Nat) : Int) < 1) = false ∧ decide ((at_ : Int) < 0) = false := by simp only [decide_eq_false_iff_not]; omega
  rw [E_spec_l6Parse, start.1, start.2, cond_false, cond_false]
  cases hd : S.drop at_ with
  | nil =>
   have := dp_nil hd
   rw [show decide ((((bytesOf S).size : Nat) : Int) ≤ (at_ : Int)) = true from by rw [by_size]; exact decide_eq_true (by omega), cond_true]
   exact RP.fail (t := .mk 0 0 []) rfl
  | cons c s =>
   have hlt := dp_lt hd
   have ht := dp_tl hd
   have hw1 : IntKind.i64.wrap ((at_ : Int) + 1) = ((at_ + 1 : Nat) : Int) := by rw [wrap64 (by omega)]; omega
   have hwd : IntKind.i64.wrap (((d + 1 : Nat) : Int) - 1) = (d : Int) := by rw [wrap64 (by omega)]; omega
   rw [show decide ((((bytesOf S).size : Nat) : Int) ≤ (at_ : Int)) = false from by rw [by_size]; exact decide_eq_false (by omega), cond_false, dp_in hd, cond_true, dp_at hd, hw1, hwd, rdN]
   have ih1 : ∀ a : Nat, a ≤ S.length → RP S (rdN d e (S.drop a)) (FF n 25 [sr S, nt a, sr e.reverse, nt d] []) := fun a h => ih (by omega) e a (by omega) (by omega) h
   have ih2 : ∀ m, 1100 + 10 * d ≤ m → ∀ (e2 : List UInt8) (at_ : Nat), e2.length ≤ e.length + 1 → at_ ≤ S.length → RP S (rdN d e2 (S.drop at_)) (FF m 25 [sr S, nt at_, sr e2.reverse, nt d] []) := fun m hm e2 a h1 h2 => ih (by omega) e2 a hm (by omega) h2
   have lit := f_l1ParseL (n := n) (d := d + 1) (by omega) hS hd (by omega)
   have prefx := ih1 (at_ + 1) (by omega)
   rw [ht] at prefx
   by_cases h0 : letB c = true
   ·rw [if_pos h0]
    have hc : 97 ≤ c.toNat := by simp only [letB, Bool.and_eq_true, decide_eq_true_eq] at h0; omega
    rw [decide_eq_false (show ¬ (c.toNat : Int) = 42 by omega), decide_eq_false (show ¬ (c.toNat : Int) = 78 by omega), decide_eq_false (show ¬ (c.toNat : Int) = 48 by omega), decide_eq_false (show ¬ (c.toNat : Int) = 43 by omega), decide_eq_false (show ¬ (c.toNat : Int) = 33 by omega), decide_eq_false (show ¬ (c.toNat : Int) = 94 by omega), decide_eq_false (show ¬ (c.toNat : Int) = 95 by omega), decide_eq_false (show ¬ (c.toNat : Int) = 40 by omega), decide_eq_false (show ¬ (c.toNat : Int) = 91 by omega)]
    simp only [cond_false]
    rw [f_l6Letter (by omega), h0]
    simp only [evt]
    rw [f_l6Find e c (by omega) (by omega)]
    simp only [evt]
    cases hf : fnd e c with
    | none =>
     simp only [show decide ((-1 : Int) < 0) = true from rfl, cond_true]
     exact RP.fail (t := .mk 0 0 []) rfl
    | some k =>
     have := fnd_lt _ _ hf
     simp only [Option.bind_some]
     rw [decide_eq_false (show ¬ (k : Int) < 0 by omega), cond_false]
     by_cases hk : k ≤ 20
     ·rw [if_pos hk, decide_eq_false (show ¬ (20 : Int) < k by omega), cond_false, f_l1Leaf (by omega)]
      simp only [evt]
      exact RP.ok (j := at_ + 1) rfl (by omega) ht.symm
     ·rw [if_neg hk, decide_eq_true (show (20 : Int) < k by omega), cond_true]
      exact RP.fail (t := .mk 0 0 []) rfl
   have h0' : letB c = false := by simpa using h0
   rw [if_neg h0]
   by_cases h1 : c = 42
   ·rw [if_pos h1]; subst h1
    simp only [show decide (((((42 : UInt8).toNat : Nat) : Int)) = 42) = true from rfl, show decide (((((42 : UInt8).toNat : Nat) : Int)) = 78) = false from rfl, show decide (((((42 : UInt8).toNat : Nat) : Int)) = 48) = false from rfl, show decide (((((42 : UInt8).toNat : Nat) : Int)) = 43) = false from rfl, show decide (((((42 : UInt8).toNat : Nat) : Int)) = 33) = false from rfl, show decide (((((42 : UInt8).toNat : Nat) : Int)) = 94) = false from rfl, show decide (((((42 : UInt8).toNat : Nat) : Int)) = 95) = false from rfl, show decide (((((42 : UInt8).toNat : Nat) : Int)) = 40) = false from rfl, show decide (((((42 : UInt8).toNat : Nat) : Int)) = 91) = false from rfl, cond_true, cond_false]
    exact (lit.1 rfl).pass
   rw [if_neg h1]
   by_cases h2 : c = 78
   ·rw [if_pos h2]; subst h2
    simp only [show decide (((((78 : UInt8).toNat : Nat) : Int)) = 42) = false from rfl, show decide (((((78 : UInt8).toNat : Nat) : Int)) = 78) = true from rfl, show decide (((((78 : UInt8).toNat : Nat) : Int)) = 48) = false from rfl, show decide (((((78 : UInt8).toNat : Nat) : Int)) = 43) = false from rfl, show decide (((((78 : UInt8).toNat : Nat) : Int)) = 33) = false from rfl, show decide (((((78 : UInt8).toNat : Nat) : Int)) = 94) = false from rfl, show decide (((((78 : UInt8).toNat : Nat) : Int)) = 95) = false from rfl, show decide (((((78 : UInt8).toNat : Nat) : Int)) = 40) = false from rfl, show decide (((((78 : UInt8).toNat : Nat) : Int)) = 91) = false from rfl, cond_true, cond_false]
    exact (lit.2.1 rfl).pass
   rw [if_neg h2]
   by_cases h3 : c = 48
   ·rw [if_pos h3]; subst h3
    simp only [show decide (((((48 : UInt8).toNat : Nat) : Int)) = 42) = false from rfl, show decide (((((48 : UInt8).toNat : Nat) : Int)) = 78) = false from rfl, show decide (((((48 : UInt8).toNat : Nat) : Int)) = 48) = true from rfl, show decide (((((48 : UInt8).toNat : Nat) : Int)) = 43) = false from rfl, show decide (((((48 : UInt8).toNat : Nat) : Int)) = 33) = false from rfl, show decide (((((48 : UInt8).toNat : Nat) : Int)) = 94) = false from rfl, show decide (((((48 : UInt8).toNat : Nat) : Int)) = 95) = false from rfl, show decide (((((48 : UInt8).toNat : Nat) : Int)) = 40) = false from rfl, show decide (((((48 : UInt8).toNat : Nat) : Int)) = 91) = false from rfl, cond_true, cond_false]
    exact (lit.2.2 rfl).pass
   rw [if_neg h3]
   by_cases h4 : c = 43
   ·rw [if_pos h4]; subst h4
    simp only [show decide (((((43 : UInt8).toNat : Nat) : Int)) = 42) = false from rfl, show decide (((((43 : UInt8).toNat : Nat) : Int)) = 78) = false from rfl, show decide (((((43 : UInt8).toNat : Nat) : Int)) = 48) = false from rfl, show decide (((((43 : UInt8).toNat : Nat) : Int)) = 43) = true from rfl, show decide (((((43 : UInt8).toNat : Nat) : Int)) = 33) = false from rfl, show decide (((((43 : UInt8).toNat : Nat) : Int)) = 94) = false from rfl, show decide (((((43 : UInt8).toNat : Nat) : Int)) = 95) = false from rfl, show decide (((((43 : UInt8).toNat : Nat) : Int)) = 40) = false from rfl, show decide (((((43 : UInt8).toNat : Nat) : Int)) = 91) = false from rfl, cond_true, cond_false]
    obtain ⟨t, k, hr, hq⟩ := prefx
    simp only [sr, nt] at hr
    rw [hr]
    simp only [evt]
    rw [f_l1Node (by omega) _ _ (by simp)]
    simp only [evt]
    exact ⟨.mk 8 0 [t], k, rfl, hq.map fun b => .mk 8 0 [b]⟩
   rw [if_neg h4]
   by_cases h5 : c = 33
   ·rw [if_pos h5]; subst h5
    simp only [show decide (((((33 : UInt8).toNat : Nat) : Int)) = 42) = false from rfl, show decide (((((33 : UInt8).toNat : Nat) : Int)) = 78) = false from rfl, show decide (((((33 : UInt8).toNat : Nat) : Int)) = 48) = false from rfl, show decide (((((33 : UInt8).toNat : Nat) : Int)) = 43) = false from rfl, show decide (((((33 : UInt8).toNat : Nat) : Int)) = 33) = true from rfl, show decide (((((33 : UInt8).toNat : Nat) : Int)) = 94) = false from rfl, show decide (((((33 : UInt8).toNat : Nat) : Int)) = 95) = false from rfl, show decide (((((33 : UInt8).toNat : Nat) : Int)) = 40) = false from rfl, show decide (((((33 : UInt8).toNat : Nat) : Int)) = 91) = false from rfl, cond_true, cond_false]
    obtain ⟨t, k, hr, hq⟩ := prefx
    simp only [sr, nt] at hr
    rw [hr]
    simp only [evt]
    rw [f_l1Node (by omega) _ _ (by simp)]
    simp only [evt]
    exact ⟨.mk 11 0 [t], k, rfl, hq.map fun b => .mk 11 0 [b]⟩
   rw [if_neg h5]
   by_cases h6 : c = 94
   ·rw [if_pos h6]; subst h6
    simp only [show decide (((((94 : UInt8).toNat : Nat) : Int)) = 42) = false from rfl, show decide (((((94 : UInt8).toNat : Nat) : Int)) = 78) = false from rfl, show decide (((((94 : UInt8).toNat : Nat) : Int)) = 48) = false from rfl, show decide (((((94 : UInt8).toNat : Nat) : Int)) = 43) = false from rfl, show decide (((((94 : UInt8).toNat : Nat) : Int)) = 33) = false from rfl, show decide (((((94 : UInt8).toNat : Nat) : Int)) = 94) = true from rfl, show decide (((((94 : UInt8).toNat : Nat) : Int)) = 95) = false from rfl, show decide (((((94 : UInt8).toNat : Nat) : Int)) = 40) = false from rfl, show decide (((((94 : UInt8).toNat : Nat) : Int)) = 91) = false from rfl, cond_true, cond_false]
    obtain ⟨t, k, hr, hq⟩ := prefx
    simp only [sr, nt] at hr
    rw [hr]
    simp only [evt]
    rw [f_l1Node (by omega) _ _ (by simp)]
    simp only [evt]
    exact ⟨.mk 15 0 [t], k, rfl, hq.map fun b => .mk 15 0 [b]⟩
   rw [if_neg h6]
   by_cases h7 : c = 95
   ·rw [if_pos h7]; subst h7
    simp only [show decide (((((95 : UInt8).toNat : Nat) : Int)) = 42) = false from rfl, show decide (((((95 : UInt8).toNat : Nat) : Int)) = 78) = false from rfl, show decide (((((95 : UInt8).toNat : Nat) : Int)) = 48) = false from rfl, show decide (((((95 : UInt8).toNat : Nat) : Int)) = 43) = false from rfl, show decide (((((95 : UInt8).toNat : Nat) : Int)) = 33) = false from rfl, show decide (((((95 : UInt8).toNat : Nat) : Int)) = 94) = false from rfl, show decide (((((95 : UInt8).toNat : Nat) : Int)) = 95) = true from rfl, show decide (((((95 : UInt8).toNat : Nat) : Int)) = 40) = false from rfl, show decide (((((95 : UInt8).toNat : Nat) : Int)) = 91) = false from rfl, cond_true, cond_false]
    obtain ⟨t, k, hr, hq⟩ := prefx
    simp only [sr, nt] at hr
    rw [hr]
    simp only [evt]
    rw [f_l1Node (by omega) _ _ (by simp)]
    simp only [evt]
    exact ⟨.mk 16 0 [t], k, rfl, hq.map fun b => .mk 16 0 [b]⟩
   rw [if_neg h7]
   obtain ⟨n, rfl⟩ := pos_succ (show 0 < n by omega)
   by_cases h8 : c = 40
   ·rw [if_pos h8]; subst h8
    simp only [show decide (((((40 : UInt8).toNat : Nat) : Int)) = 42) = false from rfl, show decide (((((40 : UInt8).toNat : Nat) : Int)) = 78) = false from rfl, show decide (((((40 : UInt8).toNat : Nat) : Int)) = 48) = false from rfl, show decide (((((40 : UInt8).toNat : Nat) : Int)) = 43) = false from rfl, show decide (((((40 : UInt8).toNat : Nat) : Int)) = 33) = false from rfl, show decide (((((40 : UInt8).toNat : Nat) : Int)) = 94) = false from rfl, show decide (((((40 : UInt8).toNat : Nat) : Int)) = 95) = false from rfl, show decide (((((40 : UInt8).toNat : Nat) : Int)) = 40) = true from rfl, show decide (((((40 : UInt8).toNat : Nat) : Int)) = 91) = false from rfl, cond_true, cond_false]
    have := f_l6Round (n := n) (e := e) (at_ := at_ + 1) (by omega) hS (by omega) (by omega) (ih2 n (by omega))
    rw [ht] at this
    exact this.pass
   rw [if_neg h8]
   by_cases h9 : c = 91
   ·rw [if_pos h9]; subst h9
    simp only [show decide (((((91 : UInt8).toNat : Nat) : Int)) = 42) = false from rfl, show decide (((((91 : UInt8).toNat : Nat) : Int)) = 78) = false from rfl, show decide (((((91 : UInt8).toNat : Nat) : Int)) = 48) = false from rfl, show decide (((((91 : UInt8).toNat : Nat) : Int)) = 43) = false from rfl, show decide (((((91 : UInt8).toNat : Nat) : Int)) = 33) = false from rfl, show decide (((((91 : UInt8).toNat : Nat) : Int)) = 94) = false from rfl, show decide (((((91 : UInt8).toNat : Nat) : Int)) = 95) = false from rfl, show decide (((((91 : UInt8).toNat : Nat) : Int)) = 40) = false from rfl, show decide (((((91 : UInt8).toNat : Nat) : Int)) = 91) = true from rfl, cond_true, cond_false]
    have := f_l6Square (n := n) (e := e) (at_ := at_ + 1) (by omega) hS (by omega) (by omega) (ih2 n (by omega))
    rw [ht] at this
    exact this.pass
   rw [if_neg h9]
   rw [by_int (c := 42) (v := 42) rfl, by_int (c := 78) (v := 78) rfl, by_int (c := 48) (v := 48) rfl, by_int (c := 43) (v := 43) rfl, by_int (c := 33) (v := 33) rfl, by_int (c := 94) (v := 94) rfl, by_int (c := 95) (v := 95) rfl, by_int (c := 40) (v := 40) rfl, by_int (c := 91) (v := 91) rfl, decide_eq_false h1, decide_eq_false h2, decide_eq_false h3, decide_eq_false h4, decide_eq_false h5, decide_eq_false h6, decide_eq_false h7, decide_eq_false h8, decide_eq_false h9]
   simp only [cond_false]
   rw [f_l6Letter (by omega), h0']
   simp only [evt]
   obtain ⟨n, rfl⟩ := pos_succ (show 0 < n by omega)
   have := f_l6Block (n := n) (d := d) (e := e) (by omega) hS hd (by omega) (by omega) (fun a h => ih (by omega) e a (by omega) (by omega) h)
   exact this.pass
end Go.Proofs.YtnogehmgpfpjmaaGreatDoor
end
section
namespace Go.Proofs.YtnogehmgpfpjmaaGreatDoor
open Go Go.Ab Go.Dk
theorem eat_len {c : UInt8} {s r : List UInt8} (h : eat c s = some r) : r.length + 1 = s.length := by
 cases s with
 | nil => cases h
 | cons x s =>
  simp only [eat] at h
  split at h
  ·cases h; rfl
  ·cases h
def Dec (p : List UInt8 → Option (T × List UInt8)) : Prop := ∀ s t r, p s = some (t, r) → t.size + r.length ≤ s.length
theorem rdS_size {p : List UInt8 → Option (T × List UInt8)} (h : Dec p) (last : UInt8) : ∀ n s ts r, rdS p last n s = some (ts, r) → T.sizeL ts + r.length ≤ s.length
 | 0, s, ts, r, e => by cases e; simp [T.sizeL]
 | n + 1, s, ts, r, e => by
  rw [rdS] at e
  obtain ⟨x, h1, e⟩ := Option.bind_eq_some_iff.1 e
  obtain ⟨r1, h2, e⟩ := Option.bind_eq_some_iff.1 e
  obtain ⟨y, h3, e⟩ := Option.map_eq_some_iff.1 e
  cases e
  have := h s x.1 x.2 h1
  have := eat_len h2
  have := rdS_size h last n r1 y.1 y.2 h3
  simp only [T.sizeL]; omega
theorem sz_map {o : Option (T × List UInt8)} {k : Int} {t : T} {r s : List UInt8} (h : ∀ a q, o = some (a, q) → a.size + q.length ≤ s.length) (e : (o.map fun x => (T.mk k 0 [x.1], x.2)) = some (t, r)) : t.size + r.length ≤ s.length + 1 := by
 obtain ⟨x, h1, e⟩ := Option.map_eq_some_iff.1 e
 cases e
 have := h x.1 x.2 h1
 simp only [T.size, T.sizeL]; omega
theorem sz_S {o : Option (List T × List UInt8)} {k : Int} {t : T} {r s : List UInt8} (h : ∀ a q, o = some (a, q) → T.sizeL a + q.length ≤ s.length) (e : (o.map fun x => (T.mk k 0 x.1, x.2)) = some (t, r)) : t.size + r.length ≤ s.length + 1 := by
 obtain ⟨x, h1, e⟩ := Option.map_eq_some_iff.1 e
 cases e
 have := h x.1 x.2 h1
 simp only [T.size]; omega
theorem sz_two {p2 : List UInt8 → Option (T × List UInt8)} (h : Dec p2) {a : T} {q : List UInt8} {k : Int} {t : T} {r : List UInt8} (e : ((p2 q).bind fun b => (eat 41 b.2).map fun r => (T.mk k 0 [a, b.1], r)) = some (t, r)) : t.size + r.length ≤ a.size + q.length + 1 := by
 obtain ⟨b, h1, e⟩ := Option.bind_eq_some_iff.1 e
 obtain ⟨r1, h2, e⟩ := Option.map_eq_some_iff.1 e
 cases e
 have := h q b.1 b.2 h1
 have := eat_len h2
 simp only [T.size, T.sizeL]; omega
theorem ite_or {α : Type} {p : Prop} [Decidable p] {a b x : α} (h : (if p then a else b) = x) : (p ∧ a = x) ∨ (¬ p ∧ b = x) := by
 by_cases hp : p
 ·rw [if_pos hp] at h; exact .inl ⟨hp, h⟩
 ·rw [if_neg hp] at h; exact .inr ⟨hp, h⟩
theorem rd_size : ∀ (d : Nat) (env : List UInt8), Dec (rdI d env)
 | 0, env => fun s t r e => by cases e
 | d + 1, env => fun s t r e => by
  cases s with
  | nil => cases e
  | cons c s =>
   have ih := rd_size d
   rw [rdI] at e
   show t.size + r.length ≤ s.length + 1
   rcases ite_or e with ⟨hc, e⟩ | ⟨hc, e⟩
   ·obtain ⟨k, _, e⟩ := Option.map_eq_some_iff.1 e; cases e; simp only [T.size, T.sizeL]; omega
   rcases ite_or e with ⟨hc, e⟩ | ⟨hc, e⟩
   ·unfold numI at e
    split at e
    ·cases e; have := rnR_len s; simp only [T.size, T.sizeL]; omega
    ·cases e
   rcases ite_or e with ⟨hc, e⟩ | ⟨hc, e⟩
   ·cases e; simp only [T.size, T.sizeL]; omega
   rcases ite_or e with ⟨hc, e⟩ | ⟨hc, e⟩
   ·cases e; simp only [T.size, T.sizeL]; omega
   rcases ite_or e with ⟨hc, e⟩ | ⟨hc, e⟩
   ·exact sz_map (ih env s) e
   rcases ite_or e with ⟨hc, e⟩ | ⟨hc, e⟩
   ·exact sz_map (ih env s) e
   rcases ite_or e with ⟨hc, e⟩ | ⟨hc, e⟩
   ·exact sz_map (ih env s) e
   rcases ite_or e with ⟨hc, e⟩ | ⟨hc, e⟩
   ·exact sz_map (ih env s) e
   rcases ite_or e with ⟨hc, e⟩ | ⟨hc, e⟩
   ·split at e
    ·rename_i x s2 hb
     have := bnd_len hb
     obtain ⟨a, h1, e⟩ := Option.bind_eq_some_iff.1 e
     have h2 := ih env s2 a.1 a.2 h1
     split at e
     ·rename_i y q hq
      rw [hq, List.length_cons] at h2
      split at e
      ·have := sz_two (ih _) e; omega
      ·split at e
       ·have := sz_two (ih _) e; omega
       ·cases e
     ·cases e
    ·obtain ⟨a, h1, e⟩ := Option.bind_eq_some_iff.1 e
     obtain ⟨q, h2, e⟩ := Option.bind_eq_some_iff.1 e
     have := ih env s a.1 a.2 h1
     have := eat_len h2
     have := sz_two (ih _) e; omega
   rcases ite_or e with ⟨hc, e⟩ | ⟨hc, e⟩
   ·obtain ⟨x, hb, e⟩ := Option.bind_eq_some_iff.1 e
    have := bnd_len (y := x.1) (r := x.2) hb
    obtain ⟨a, h1, e⟩ := Option.bind_eq_some_iff.1 e
    obtain ⟨q, h2, e⟩ := Option.bind_eq_some_iff.1 e
    obtain ⟨b, h3, e⟩ := Option.map_eq_some_iff.1 e
    cases e
    have := ih env x.2 a.1 a.2 h1
    have := eat_len h2
    have := ih _ q b.1 b.2 h3
    simp only [T.size, T.sizeL]; omega
   rcases ite_or e with ⟨hc, e⟩ | ⟨hc, e⟩
   ·exact sz_S (rdS_size (ih env) 62 4 s) e
   rcases ite_or e with ⟨hc, e⟩ | ⟨hc, e⟩
   ·exact sz_S (rdS_size (ih env) 125 3 s) e
   rcases ite_or e with ⟨hc, e⟩ | ⟨hc, e⟩
   ·exact sz_S (rdS_size (ih env) 124 3 s) e
   rcases ite_or e with ⟨hc, e⟩ | ⟨hc, e⟩
   ·obtain ⟨q, h1, e⟩ := Option.bind_eq_some_iff.1 e
    have := eat_len h1
    have := sz_S (rdS_size (ih env) 62 3 q) e
    omega
   ·cases e
theorem f_NamesValidI {n : Nat} (l : List UInt8) (hl : l.length ≤ 1048577) (hn : l.length + 5 ≤ n) : FF n 27 [sr l] [] = some ([bl (nvB (bytesOf l))], []) := by
 obtain ⟨n, rfl⟩ : ∃ m, n = m + 3 := ⟨n - 3, by omega⟩
 have hs := by_size l
 rw [E_impl_NamesValid]
 refine nvI_loop (bytesOf l) (by omega) _ (fun c => ?_) (fun s c => ?_) (bytesOf l).size _ 0 (by omega) (by omega) (fun j hj => by omega)
 ·rw [f_isLetter (by omega), ← letB_eq]
 ·rw [E_strings_IndexByte, E_stringslite_IndexByte]
  simp only [byte_ok, byte_rt, evs]
theorem f_NamesValidS {n : Nat} (l : List UInt8) (hl : l.length ≤ 1048577) (hn : l.length + 5 ≤ n) : FF n 24 [sr l] [] = some ([bl (nvB (bytesOf l))], []) := by
 obtain ⟨n, rfl⟩ : ∃ m, n = m + 2 := ⟨n - 2, by omega⟩
 have hs := by_size l
 rw [E_spec_NamesValid]
 refine nvS_loop (bytesOf l) (by omega) _ (fun c => ?_) (fun t c ht => ?_) (bytesOf l).size _ 0 (by omega) (by omega) (fun j hj => by omega)
 ·rw [f_l6Letter (by omega), ← letB_eq]
 ·rw [E_spec_l6Find, wrap64 (by omega), find_loop t c (by omega) n t.size n (by omega) (Nat.le_refl _)]; rfl
def psX (s names : List UInt8) : T × Bool := if nvB (bytesOf names) = true then psR s names.reverse else (.mk 0 0 [], false)
theorem f_ParseNamedI {n : Nat} {s names : List UInt8} (hn : 5000000 ≤ n) (hs : s.length ≤ 3000000) (hm : names.length ≤ 1048577) : FF n 10 [sr s, sr names] [] = some ([tm (psX s names).1, bl (psX s names).2], []) := by
 obtain ⟨n, rfl⟩ := pos_succ (show 0 < n by omega)
 rw [E_impl_ParseNamed, f_NamesValidI names hm (by omega)]
 simp only [evt]
 unfold psX
 cases hv : nvB (bytesOf names) with
 | false => rw [if_neg (by simp), Bool.not_false, cond_true]; rfl
 | true =>
  have h20 := nvB_size hv
  rw [by_size] at h20
  rw [if_pos rfl, Bool.not_true, cond_false]
  have hr := f_readNamed (B := 3000000) (by omega) 30 (by omega) (n := n) names.reverse s (by omega) (by rw [List.length_reverse]; omega) hs
  rw [List.reverse_reverse, show (31 : Int) - ((30 : Nat) : Int) = 1 from rfl] at hr
  rw [psR_I]
  rcases hr.both with ⟨t, r, ho, hr⟩ | ⟨t, r, ho, hr, hb⟩
  ·rw [hr, ho]
   simp only [evt]
   rfl
  ·rw [hr, ho]
   simp only [evt, by_toList, ne_nil]
   have hz := rd_size 30 names.reverse s t r ho
   cases r with
   | cons y r => simp only [List.cons_ne_nil, decide_false, Bool.not_false, cond_true, cond_false]; rfl
   | nil =>
    simp only [decide_true, Bool.not_true, cond_false]
    rw [f_valid (by omega)]
    simp only [evt]
    cases validB t <;> rfl
theorem f_ParseNamedS {n : Nat} {s names : List UInt8} (hn : 5000000 ≤ n) (hs : s.length ≤ 3000000) (hm : names.length ≤ 1048577) : FF n 9 [sr s, sr names] [] = some ([tm (psX s names).1, bl (psX s names).2], []) := by
 obtain ⟨n, rfl⟩ := pos_succ (show 0 < n by omega)
 rw [E_spec_ParseNamed, f_NamesValidS names hm (by omega)]
 simp only [evt]
 unfold psX
 cases hv : nvB (bytesOf names) with
 | false => rw [if_neg (by simp), Bool.not_false, cond_true]; rfl
 | true =>
  have h20 := nvB_size hv
  rw [by_size] at h20
  rw [if_pos rfl, Bool.not_true, cond_false]
  have hr := f_l6Parse (S := s) (by omega) 30 (by omega) (n := n) names.reverse 0 (by omega) (by rw [List.length_reverse]; omega) (by omega)
  rw [List.reverse_reverse, List.drop_zero] at hr
  obtain ⟨t, k, hr, hq⟩ := hr
  simp only [sr, nt] at hr
  rw [show (30 : Int) = ((30 : Nat) : Int) from rfl, show (0 : Int) = ((0 : Nat) : Int) from rfl, hr]
  simp only [evt]
  unfold psR
  rcases hq with ⟨j, ho, hj, rfl⟩ | ⟨ho, rfl⟩ | ⟨ho, j, y, r, rfl, hd, _⟩
  ·have hsz : t.size ≤ s.length := by
     have := ho
     rw [rd_grd] at this
     obtain ⟨x, h1, h2⟩ := Option.bind_eq_some_iff.1 this
     split at h2
     ·cases h2; have := rd_size 30 names.reverse s _ _ h1; omega
     ·cases h2
   rw [ho, by_size]
   by_cases he : j = s.length
   ·rw [decide_eq_true (show (j : Int) = ((s.length : Nat) : Int) by omega), Bool.not_true, cond_false, f_TermValidS (by omega) (by omega), List.drop_of_length_le (show s.length ≤ j by omega)]
    simp only [evt]
    cases validB t <;> rfl
   ·rw [decide_eq_false (show ¬ (j : Int) = ((s.length : Nat) : Int) by omega), Bool.not_false, cond_true]
    cases hd : s.drop j with
    | nil => have := dp_nil hd; omega
    | cons y r => rfl
  ·rw [ho, by_size, decide_eq_false (show ¬ (-1 : Int) = ((s.length : Nat) : Int) by omega), Bool.not_false, cond_true]; rfl
  ·have := dp_lt hd
   rw [ho, by_size, decide_eq_false (show ¬ (j : Int) = ((s.length : Nat) : Int) by omega), Bool.not_false, cond_true]; rfl
end Go.Proofs.YtnogehmgpfpjmaaGreatDoor
end
section
namespace Go.Proofs.YtnogehmgpfpjmaaGreatDoor
open Go Go.Ab Go.Dk
theorem und_nn (k : Int) (i : Nat) : 0 ≤ under k i ∧ under k i ≤ 1 := und_bd k i
theorem mb_size : (∀ t : T, mbF t ≤ t.size) := by
 intro t
 induction t using T.ind with | h t ih =>
 cases t with
 | mk k n ts =>
 rw [mbF, T.size]
 have : ∀ (ts' : List T) (i : Nat), (∀ u ∈ ts', mbF u ≤ u.size) → mbL k i ts' ≤ 1 + T.sizeL ts' := by
  intro ts'
  induction ts' with
  | nil => intro i _; simp [mbL]
  | cons u us ih2 =>
   intro i h
   have h1 := h u (by simp)
   have h2 := ih2 (i + 1) (fun v hv => h v (List.mem_cons_of_mem _ hv))
   have := und_nn k i
   have := size_pos u
   rw [mbL, T.sizeL]; omega
 exact this ts 0 ih
theorem mb_loopI {n : Nat} (hn : 10 ≤ n) (k n1 : Int) (ks ts : List T) (hl : ts.length ≤ 1000000) (hb : ∀ u ∈ ts, mbF u ≤ 1000000) (h : ∀ u ∈ ts, FF n 39 [tm u] [] = some ([nt (mbF u : Int)], [])) :
   ∀ g m (i : Nat) (v : Nat), g < m → i + g = ts.length → v ≤ 2000000 → L_impl_mostBinders_0 n m (v : Int) ts ts.length i k n1 ks = some ([nt ((max v (mbL k i (ts.drop i)) : Nat) : Int)], []) := by
 intro g
 induction g with
 | zero =>
  intro m i v hm hi hv
  obtain ⟨m, rfl⟩ := pos_succ (show 0 < m by omega)
  rw [L_impl_mostBinders_0_eq, decide_eq_false (show ¬ (i : Int) < ts.length by omega), cond_false, List.drop_of_length_le (by omega), mbL, Nat.max_zero]
 | succ g ih =>
  intro m i v hm hi hv
  obtain ⟨m, rfl⟩ := pos_succ (show 0 < m by omega)
  have hlt : i < ts.length := by omega
  have hu := und_nn k i
  have hbu := hb _ (List.getElem_mem hlt)
  rw [L_impl_mostBinders_0_eq, decide_eq_true (show (i : Int) < ts.length by omega), cond_true, decide_eq_true (show (0 : Int) ≤ i by omega), cond_true, Int.toNat_natCast, List.getElem?_eq_getElem hlt]
  simp only [Option.bind_some]
  rw [show (V1.agg [.int .i64 (ts[i]).k, .int .i64 (ts[i]).n, .fr (.ts (ts[i]).kids)]) = tm ts[i] from rfl, h _ (List.getElem_mem hlt)]
  simp only [evt]
  have hf := f_under (n := n) (by omega) k i
  simp only [nt] at hf
  rw [hf]
  simp only [evt]
  rw [wrap64 (show -9223372036854775808 ≤ (mbF ts[i] : Int) + under k i ∧ (mbF ts[i] : Int) + under k i ≤ 9223372036854775807 by omega), wrap64 (show -9223372036854775808 ≤ (i : Int) + 1 ∧ (i : Int) + 1 ≤ 9223372036854775807 by omega)]
  have e : max (v : Int) ((mbF ts[i] : Int) + under k i) = ((max v (mbF ts[i] + (under k i).toNat) : Nat) : Int) := by omega
  rw [e, show (i : Int) + 1 = ((i + 1 : Nat) : Int) by omega, ih m (i + 1) _ (by omega) (by omega) (by omega), List.drop_eq_getElem_cons hlt, mbL, Nat.max_assoc]
theorem f_mostBinders (t : T) : ∀ {n : Nat}, t.size + 20 ≤ n → t.size ≤ 100000 → FF n 39 [tm t] [] = some ([nt (mbF t : Int)], []) := by
 induction t using T.ind with | h t ih =>
 intro n hn hz
 obtain ⟨n, rfl⟩ := pos_succ (show 0 < n by omega)
 have hsz := T.size_eq t
 have hl := T.sizeL_len t.kids
 rw [E_impl_mostBinders, show (0 : Int) = ((0 : Nat) : Int) from rfl, mb_loopI (by omega) t.k t.n t.kids t.kids (by omega) (fun u hu => by have := mb_size u; have := T.sizeL_mem hu; omega) (fun u hu => ih u hu (by have := T.sizeL_mem hu; omega) (by have := T.sizeL_mem hu; omega)) t.kids.length n 0 0 (by omega) (by omega) (by omega)]
 cases t; simp [mbF, mk_k, mk_kids]
theorem mb_loopS {n : Nat} (hn : 10 ≤ n) (k n1 : Int) (ts : List T) (hl : ts.length ≤ 1000000) (hb : ∀ u ∈ ts, mbF u ≤ 1000000) (h : ∀ u ∈ ts, FF n 48 [tm u] [] = some ([nt (mbF u : Int)], [])) :
   ∀ g m (i : Nat) (v : Nat), g < m → i + g = ts.length → v ≤ 2000000 → L_spec_l6Deep_0 n m (v : Int) i k n1 ts = some ([nt ((max v (mbL k i (ts.drop i)) : Nat) : Int)], []) := by
 intro g
 induction g with
 | zero =>
  intro m i v hm hi hv
  obtain ⟨m, rfl⟩ := pos_succ (show 0 < m by omega)
  rw [L_spec_l6Deep_0_eq, decide_eq_false (show ¬ (i : Int) < ts.length by omega), cond_false, List.drop_of_length_le (by omega), mbL, Nat.max_zero]
 | succ g ih =>
  intro m i v hm hi hv
  obtain ⟨m, rfl⟩ := pos_succ (show 0 < m by omega)
  have hlt : i < ts.length := by omega
  have hu := und_nn k i
  have hbu := hb _ (List.getElem_mem hlt)
  rw [L_spec_l6Deep_0_eq, decide_eq_true (show (i : Int) < ts.length by omega), cond_true, decide_eq_true (show (0 : Int) ≤ i by omega), cond_true, Int.toNat_natCast, List.getElem?_eq_getElem hlt]
  simp only [Option.bind_some]
  rw [show (V1.agg [.int .i64 (ts[i]).k, .int .i64 (ts[i]).n, .fr (.ts (ts[i]).kids)]) = tm ts[i] from rfl, h _ (List.getElem_mem hlt)]
  simp only [evt]
  have hf := f_l2Under (n := n) (by omega) k i
  simp only [nt] at hf
  rw [hf]
  simp only [evt]
  rw [wrap64 (show -9223372036854775808 ≤ (mbF ts[i] : Int) + under k i ∧ (mbF ts[i] : Int) + under k i ≤ 9223372036854775807 by omega), wrap64 (show -9223372036854775808 ≤ (i : Int) + 1 ∧ (i : Int) + 1 ≤ 9223372036854775807 by omega)]
  rw [show (i : Int) + 1 = ((i + 1 : Nat) : Int) by omega, List.drop_eq_getElem_cons hlt, mbL]
  by_cases hc : (v : Int) < (mbF ts[i] : Int) + under k i
  ·rw [decide_eq_true hc, cond_true, show (mbF ts[i] : Int) + under k i = ((mbF ts[i] + (under k i).toNat : Nat) : Int) by omega, ih m (i + 1) _ (by omega) (by omega) (by omega), ← Nat.max_assoc, show max v (mbF ts[i] + (under k i).toNat) = mbF ts[i] + (under k i).toNat by omega]
  ·rw [decide_eq_false hc, cond_false, ih m (i + 1) _ (by omega) (by omega) (by omega), ← Nat.max_assoc, show max v (mbF ts[i] + (under k i).toNat) = v by omega]
theorem f_l6Deep (t : T) : ∀ {n : Nat}, t.size + 20 ≤ n → t.size ≤ 100000 → FF n 48 [tm t] [] = some ([nt (mbF t : Int)], []) := by
 induction t using T.ind with | h t ih =>
 intro n hn hz
 obtain ⟨n, rfl⟩ := pos_succ (show 0 < n by omega)
 have hsz := T.size_eq t
 have hl := T.sizeL_len t.kids
 rw [E_spec_l6Deep, show (0 : Int) = ((0 : Nat) : Int) from rfl, mb_loopS (by omega) t.k t.n t.kids (by omega) (fun u hu => by have := mb_size u; have := T.sizeL_mem hu; omega) (fun u hu => ih u hu (by have := T.sizeL_mem hu; omega) (by have := T.sizeL_mem hu; omega)) t.kids.length n 0 0 (by omega) (by omega) (by omega)]
 cases t; simp [mbF, mk_k, mk_kids]
theorem fresh_frF (l : List UInt8) : ∀ f k, freshFrom (bytesOf l.reverse) f k = frF l f k
 | 0, _ => rfl
 | f + 1, k => by
  rw [freshFrom, frF, fresh_frF l f (k + 1), by_data]
  simp only [List.mem_reverse]
theorem f_fresh {n : Nat} (hn : 40 ≤ n) (e : List UInt8) : FF n 80 [sr e.reverse] [] = some ([sr [frL e]], []) := by
 obtain ⟨n, rfl⟩ : ∃ m, n = m + 3 := ⟨n - 3, by omega⟩
 rw [E_impl_fresh]
 have := freshI_loop (bytesOf e.reverse) (n + 2) (fun s c => by rw [E_strings_IndexByte, E_stringslite_IndexByte]; simp only [byte_ok, byte_rt, evs]) 25 (n + 2) 97 (by omega) (by omega) (by omega)
 rw [fresh_frF] at this
 exact this
theorem f_l6Fresh {n : Nat} (hn : 100 ≤ n) (e : List UInt8) (he : e.length ≤ 20) : FF n 112 [sr e.reverse] [] = some ([.one (.int .u8 ((frL e).toNat : Int))], []) := by
 obtain ⟨n, rfl⟩ : ∃ m, n = m + 2 := ⟨n - 2, by omega⟩
 have hs : (bytesOf e.reverse).size = e.length := by rw [by_size, List.length_reverse]
 rw [E_spec_l6Fresh]
 have := freshS_loop (bytesOf e.reverse) (n + 1) (fun c => by rw [E_spec_l6Find, wrap64 (by omega), find_loop _ c (by omega) n (bytesOf e.reverse).size n (by omega) (Nat.le_refl _)]; rfl) 26 (n + 1) 97 (by omega) (by omega) (by omega)
 rw [fresh_eq _ (by omega)] at this
 unfold freshB at this
 rw [fresh_frF] at this
 exact this
def sumL (xs : List (List UInt8)) : Nat := (xs.map List.length).sum
theorem sumL_cons (x : List UInt8) (xs : List (List UInt8)) : sumL (x :: xs) = x.length + sumL xs := by simp [sumL]
theorem joinC_le : ∀ xs : List (List UInt8), (joinC xs).length ≤ sumL xs + xs.length
 | [] => by simp [joinC]
 | [x] => by simp [joinC, sumL]
 | x :: y :: xs => by have := joinC_le (y :: xs); rw [sumL_cons]; show (x ++ 44 :: joinC (y :: xs)).length ≤ _; simp only [List.length_append, List.length_cons] at this ⊢; omega
theorem getD01_le : ∀ xs : List (List UInt8), (xs.getD 0 []).length + (xs.getD 1 []).length ≤ sumL xs
 | [] => by simp [sumL]
 | [x] => by simp [sumL]
 | x :: y :: xs => by rw [sumL_cons, sumL_cons]; simp
theorem ite_len {p : Prop} [Decidable p] {a b : List UInt8} {N : Nat} (ha : a.length ≤ N) (hb : b.length ≤ N) : (if p then a else b).length ≤ N := by split <;> assumption
theorem wv_le (k : Int) (c : UInt8) (xs : List (List UInt8)) : (wv k c xs).length ≤ sumL xs + xs.length + 6 := by
 have h1 := joinC_le xs
 have h2 := getD01_le xs
 unfold wv
 repeat' apply ite_len
 all_goals simp only [List.length_append, List.length_cons, List.length_nil]
 all_goals omega
theorem shN_bd (t : T) : ∀ e : List UInt8, (shN e t).length + 1 ≤ 8 * t.size := by
 induction t using T.ind with | h t ih =>
 intro e
 cases t with
 | mk k n ts =>
 have hL : ∀ (us : List T) (i : Nat) (e e' : List UInt8), (∀ u ∈ us, ∀ e, (shN e u).length + 1 ≤ 8 * u.size) → sumL (shNL e e' i us) + us.length ≤ 8 * T.sizeL us ∧ (shNL e e' i us).length = us.length := by
  intro us
  induction us with
  | nil => intro i e e' _; simp [shNL, sumL]
  | cons u us ih2 =>
   intro i e e' h
   have h1 := h u (by simp) (if i = 1 then e' else e)
   have h2 := ih2 (i + 1) e e' (fun v hv => h v (List.mem_cons_of_mem _ hv))
   rw [shNL, sumL_cons, T.sizeL]
   simp only [List.length_cons]
   omega
 have := hL ts 0 e (if isBd k = true then frL e :: e else e) ih
 rw [shN, T.size]
 split
 ·simp; omega
 ·split
  ·simp; omega
  ·have := wv_le k (frL e) (shNL e (if isBd k = true then frL e :: e else e) 0 ts)
   omega
def catP : List (List UInt8) → List (List UInt8) → List UInt8
 | x :: xs, p :: ps => x ++ (p ++ catP xs ps)
 | _, _ => []
theorem szc {a b : Nat} (h : a + b ≤ 1000000000) : decide (a + b ≤ 9223372036854775807) = true := decide_eq_true (by omega)
theorem shown_loop {n : Nat} (hn : 10 ≤ n) (k n1 : Int) (ks ts : List T) (xs ps : List (List UInt8)) (e inn : List UInt8) (hx : xs.length = ts.length) (hp : ps.length = ts.length + 1) (hl : ts.length ≤ 10) (hp3 : ∀ p ∈ ps, p.length ≤ 3)
   (h : ∀ (j : Nat) (hj : j < ts.length), FF n 40 [tm ts[j], sr (if 0 < under k j then inn else e)] [] = some ([sr (xs[j]'(by omega))], [])) :
   ∀ g m (i : Nat) (out : List UInt8), g < m → i + g = ts.length → out.length + sumL (xs.drop i) + 3 * g ≤ 100000000 →
   L_impl_shown_0 n m (bytesOf e) (ps.map bytesOf) (bytesOf out) (bytesOf inn) ts ts.length i k n1 ks = some ([sr (out ++ catP (xs.drop i) (ps.drop (i + 1)))], []) := by
 intro g
 induction g with
 | zero =>
  intro m i out hm hi hb
  obtain ⟨m, rfl⟩ := pos_succ (show 0 < m by omega)
  rw [L_impl_shown_0_eq, decide_eq_false (show ¬ (i : Int) < ts.length by omega), cond_false, List.drop_of_length_le (show xs.length ≤ i by omega)]
  simp [catP]
 | succ g ih =>
  intro m i out hm hi hb
  obtain ⟨m, rfl⟩ := pos_succ (show 0 < m by omega)
  have hlt : i < ts.length := by omega
  have hltx : i < xs.length := by omega
  have hltp : i + 1 < ps.length := by omega
  have hu := und_nn k i
  have hi1 := h i hlt
  have hpl := hp3 _ (List.getElem_mem hltp)
  rw [List.drop_eq_getElem_cons hltx, sumL_cons] at hb
  have hw : IntKind.i64.wrap ((i : Int) + 1) = ((i + 1 : Nat) : Int) := by rw [wrap64 (by omega)]; omega
  rw [L_impl_shown_0_eq, decide_eq_true (show (i : Int) < ts.length by omega), cond_true, decide_eq_true (show (0 : Int) ≤ i by omega), cond_true, Int.toNat_natCast, List.getElem?_eq_getElem hlt]
  simp only [Option.bind_some]
  have hf := f_under (n := n) (by omega) k i
  simp only [nt] at hf
  rw [hf]
  simp only [evt]
  rw [hw, decide_eq_true (show (0 : Int) ≤ ((i + 1 : Nat) : Int) by omega), Int.toNat_natCast, List.getElem?_map, List.getElem?_eq_getElem hltp]
  simp only [Option.map_some, Option.bind_some, cond_true]
  have s1 : decide ((bytesOf xs[i]).size + (bytesOf ps[i + 1]).size ≤ 9223372036854775807) = true := szc (by rw [by_size, by_size]; omega)
  have s2 : decide ((bytesOf out).size + (bytesOf xs[i] ++ bytesOf ps[i + 1]).size ≤ 9223372036854775807) = true := szc (by rw [by_app, by_size, by_size, List.length_append]; omega)
  have e1 : bytesOf out ++ (bytesOf xs[i] ++ bytesOf ps[i + 1]) = bytesOf (out ++ (xs[i] ++ ps[i + 1])) := by rw [by_app, by_app]
  have fin : out ++ catP (xs.drop i) (ps.drop (i + 1)) = (out ++ (xs[i] ++ ps[i + 1])) ++ catP (xs.drop (i + 1)) (ps.drop (i + 1 + 1)) := by
   rw [List.drop_eq_getElem_cons hltx, List.drop_eq_getElem_cons hltp, catP]; simp
  by_cases hc : 0 < under k i
  ·rw [if_pos hc] at hi1
   simp only [sr] at hi1
   rw [decide_eq_true hc, cond_true, hi1]
   simp only [evt]
   rw [s1, cond_true, s2, cond_true, e1, ih m (i + 1) _ (by omega) (by omega) (by simp only [List.length_append]; omega), fin]
  ·rw [if_neg hc] at hi1
   simp only [sr] at hi1
   rw [decide_eq_false hc, cond_false, hi1]
   simp only [evt]
   rw [s1, cond_true, s2, cond_true, e1, ih m (i + 1) _ (by omega) (by omega) (by simp only [List.length_append]; omega), fin]
theorem joinC_cons (x : List UInt8) : ∀ xs, joinC (x :: xs) = x ++ (xs.map (44 :: ·)).flatten
 | [] => by simp [joinC]
 | y :: xs => by
  show x ++ 44 :: joinC (y :: xs) = _
  rw [joinC_cons y xs]; simp
theorem list_loopS {n : Nat} (ts : List T) (e : List UInt8) (hl : ts.length ≤ 10) (hz : T.sizeL ts ≤ 100000) (h : ∀ u ∈ ts, FF n 49 [tm u, sr e] [] = some ([sr (shN e.reverse u)], [])) :
   ∀ g m (i : Nat) (out : List UInt8), g < m → i + g = ts.length → 1 ≤ i → out.length + 9 * T.sizeL (ts.drop i) ≤ 100000000 →
   L_spec_l6List_0 n m ts (bytesOf e) (bytesOf out) i = some ([sr (out ++ ((ts.drop i).map fun u => 44 :: shN e.reverse u).flatten)], []) := by
 intro g
 induction g with
 | zero =>
  intro m i out hm hi h1 hb
  obtain ⟨m, rfl⟩ := pos_succ (show 0 < m by omega)
  rw [L_spec_l6List_0_eq, decide_eq_false (show ¬ (i : Int) < ts.length by omega), cond_false, List.drop_of_length_le (show ts.length ≤ i by omega)]
  simp
 | succ g ih =>
  intro m i out hm hi h1 hb
  obtain ⟨m, rfl⟩ := pos_succ (show 0 < m by omega)
  have hlt : i < ts.length := by omega
  have hi1 := h _ (List.getElem_mem hlt)
  have hbd := shN_bd ts[i] e.reverse
  rw [List.drop_eq_getElem_cons hlt, T.sizeL] at hb
  simp only [sr] at hi1
  have hw : IntKind.i64.wrap ((i : Int) + 1) = ((i + 1 : Nat) : Int) := by rw [wrap64 (by omega)]; omega
  rw [L_spec_l6List_0_eq, decide_eq_true (show (i : Int) < ts.length by omega), cond_true, decide_eq_true (show (0 : Int) < i by omega), cond_true, szc (by rw [by_size, by_size]; simp only [List.length_cons, List.length_nil]; omega), cond_true, decide_eq_true (show (0 : Int) ≤ i by omega), cond_true, Int.toNat_natCast, List.getElem?_eq_getElem hlt]
  simp only [Option.bind_some]
  rw [show (V1.agg [.int .i64 (ts[i]).k, .int .i64 (ts[i]).n, .fr (.ts (ts[i]).kids)]) = tm ts[i] from rfl, hi1]
  simp only [evt]
  rw [by_app, szc (by rw [by_size, by_size]; simp only [List.length_append, List.length_cons, List.length_nil]; omega), cond_true, by_app, hw, ih m (i + 1) _ (by omega) (by omega) (by omega) (by simp only [List.length_append, List.length_cons, List.length_nil]; omega), List.drop_eq_getElem_cons hlt]
  simp only [List.map_cons, List.flatten_cons, List.append_assoc, List.cons_append, List.nil_append]
theorem f_l6List {n : Nat} (hn : 20 ≤ n) (ts : List T) (e : List UInt8) (h0 : ts ≠ []) (hl : ts.length ≤ 10) (hz : T.sizeL ts ≤ 100000) (h : ∀ u ∈ ts, FF n 49 [tm u, sr e] [] = some ([sr (shN e.reverse u)], [])) :
   FF (n + 1) 92 [tms ts, sr e] [] = some ([sr (joinC (ts.map (shN e.reverse)))], []) := by
 obtain ⟨m, rfl⟩ := pos_succ (show 0 < n by omega)
 cases ts with
 | nil => exact absurd rfl h0
 | cons t ts =>
  have hi1 := h t (by simp)
  have hbd := shN_bd t e.reverse
  have hs : T.sizeL (t :: ts) = t.size + T.sizeL ts := rfl
  rw [E_spec_l6List, L_spec_l6List_0_eq]
  simp only [sr] at hi1
  rw [decide_eq_true (show (0 : Int) < (t :: ts).length by simp only [List.length_cons]; omega), cond_true, show decide ((0 : Int) < 0) = false from rfl, cond_false, show decide ((0 : Int) ≤ 0) = true from rfl, cond_true, show (t :: ts)[(0 : Int).toNat]? = some t from rfl]
  simp only [Option.bind_some]
  rw [show (V1.agg [.int .i64 t.k, .int .i64 t.n, .fr (.ts t.kids)]) = tm t from rfl, hi1]
  simp only [evt]
  rw [szc (by rw [by_size, by_size]; simp only [List.length_nil]; omega), cond_true, by_app, show IntKind.i64.wrap ((0 : Int) + 1) = ((1 : Nat) : Int) from rfl]
  have := list_loopS (t :: ts) e hl hz h ts.length m 1 ([] ++ shN e.reverse t) (by simp only [List.length_cons] at hl; omega) (by simp; omega) (by omega) (by simp; omega)
  rw [this, List.map_cons, joinC_cons]
  simp [Function.comp_def]
end Go.Proofs.YtnogehmgpfpjmaaGreatDoor
end
section
namespace Go.Proofs.YtnogehmgpfpjmaaGreatDoor
open Go Go.Ab Go.Dk
theorem shown_node {n : Nat} {k n1 : Int} {ts : List T} {e sh p0 : List UInt8} {xs ps : List (List UInt8)} (hn : 60 ≤ n) (he : e.length ≤ 1000) (hk : 3 ≤ k ∧ k ≤ 16) (hsh : shps[(k - 1).toNat]? = some sh) (hsp : shTab.lookup sh = some (p0 :: ps))
   (hx : xs.length = ts.length) (hp : ps.length = ts.length) (hl : ts.length ≤ 10) (hp3 : ∀ p ∈ p0 :: ps, p.length ≤ 3) (hb : sumL xs ≤ 10000000)
   (h : ∀ (j : Nat) (hj : j < ts.length), FF n 40 [tm ts[j], sr (if 0 < under k j then (if isBd k = true then (frL e :: e).reverse else e.reverse) else e.reverse)] [] = some ([sr (xs[j]'(by omega))], [])) :
   FF (n + 1) 40 [tm (.mk k n1 ts), sr e.reverse] [] = some ([sr ((if isBd k = true then p0 ++ [frL e, 58] else p0) ++ catP xs ps)], []) := by
 have hp0 := hp3 p0 (by simp)
 show FF (n + 1) 40 [.agg [.int .i64 k, .int .i64 n1, .fr (.ts ts)], .one (.str (bytesOf e.reverse))] [] = _
 rw [E_impl_shown]
 rw [decide_eq_false (show ¬ k = 1 by omega), cond_false, decide_eq_false (show ¬ k = 2 by omega), cond_false, f_shapes (by omega)]
 simp only [evt]
 rw [wrap64 (show -9223372036854775808 ≤ k - 1 ∧ k - 1 ≤ 9223372036854775807 by omega), decide_eq_true (show 0 ≤ k - 1 by omega), cond_true, List.getElem?_map, hsh]
 simp only [Option.map_some, Option.bind_some]
 obtain ⟨n, rfl⟩ := pos_succ (show 0 < n by omega)
 rw [f_Split sh hsp]
 simp only [evt]
 simp only [List.map_cons, Int.toNat_zero, List.getElem?_cons_zero, Option.bind_some]
 have hib := f_isBd (n := n + 1) (by omega) k
 simp only [nt] at hib
 rw [hib]
 simp only [evt]
 have loop := fun (inn out : List UInt8) (hh : ∀ (j : Nat) (hj : j < ts.length), FF (n + 1) 40 [tm ts[j], sr (if 0 < under k j then inn else e.reverse)] [] = some ([sr (xs[j]'(by omega))], [])) (hbb : out.length + sumL (xs.drop 0) + 3 * ts.length ≤ 100000000) => shown_loop (n := n + 1) (by omega) k n1 ts ts xs (p0 :: ps) e.reverse inn hx (by simp; omega) hl hp3 hh ts.length (n + 1) 0 out (by omega) (by omega) hbb
 cases hi : isBd k with
 | false =>
  simp only [hi, Bool.false_eq_true, if_false, ite_self] at h ⊢
  rw [cond_false]
  have := loop e.reverse p0 (by simpa using h) (by simp only [List.drop_zero]; omega)
  simp only [List.map_cons, List.drop_zero, List.drop_succ_cons, Nat.zero_add] at this
  exact this
 | true =>
  simp only [hi, if_true] at h ⊢
  rw [cond_true]
  have hf := f_fresh (n := n + 1) (by omega) e
  simp only [sr] at hf
  rw [hf]
  simp only [evt]
  rw [szc (by rw [by_size, by_size]; simp only [List.length_reverse, List.length_cons, List.length_nil]; omega), cond_true, szc (by rw [by_size, by_size]; simp only [List.length_cons, List.length_nil]; omega), cond_true, by_app, szc (by rw [by_size, by_size]; simp only [List.length_append, List.length_cons, List.length_nil]; omega), cond_true, by_app, by_app]
  have := loop (e.reverse ++ [frL e]) (p0 ++ ([frL e] ++ [58])) (by simpa using h) (by simp only [List.drop_zero, List.length_append, List.length_cons, List.length_nil]; omega)
  simp only [List.map_cons, List.drop_zero, List.drop_succ_cons, Nat.zero_add] at this
  exact this
theorem sumL_map_le (e : List UInt8) : ∀ ts : List T, sumL (ts.map (shN e)) ≤ 8 * T.sizeL ts
 | [] => by simp [sumL]
 | t :: ts => by have := sumL_map_le e ts; have := shN_bd t e; rw [List.map_cons, sumL_cons, T.sizeL]; omega
theorem under_flat {k : Int} (h : isBd k = false) (i : Nat) : under k i = 0 := by
 unfold under
 rw [if_neg]
 intro hh
 simp only [isBd, Bool.or_eq_false_iff, decide_eq_false_iff_not] at h
 omega
theorem under_two {k : Int} (h : isBd k = true) : under k 0 = 0 ∧ under k 1 = 1 := by
 simp only [isBd, Bool.or_eq_true, decide_eq_true_eq] at h
 constructor
 ·unfold under; rw [if_neg (by omega)]
 ·unfold under; rw [if_pos ⟨rfl, h⟩]
def SH (t : T) (d : Nat) (e : List UInt8) : Prop := shapeF t d = true ∧ clF t (e.length : Nat) = true ∧ e.length + mbF t ≤ 20
theorem sh_flat {k n : Int} {ts : List T} {d : Nat} {e : List UInt8} (h : SH (.mk k n ts) d e) (hb : isBd k = false) : ∃ d2, ∀ u ∈ ts, SH u d2 e := by
 obtain ⟨hs, hc, hm⟩ := h
 obtain ⟨d2, rfl, ho, hnn, hk⟩ := shape_node hs
 rw [clF] at hc
 simp only [Bool.and_eq_true] at hc
 rw [mbF] at hm
 exact ⟨d2, fun u hu => ⟨hk u hu, clL_flat hb ts 0 _ hc.2 u hu, by have := mbL_mem (k := k) ts 0 hu; omega⟩⟩
theorem sh_two {k n : Int} {a b : T} {d : Nat} {e : List UInt8} (h : SH (.mk k n [a, b]) d e) (hb : isBd k = true) : ∃ d2, SH a d2 e ∧ SH b d2 (frL e :: e) := by
 obtain ⟨hs, hc, hm⟩ := h
 obtain ⟨d2, rfl, ho, hnn, hk⟩ := shape_node hs
 obtain ⟨hu0, hu1⟩ := under_two hb
 rw [clF] at hc
 simp only [Bool.and_eq_true] at hc
 have hc2 := hc.2
 simp only [clL, hu0, hu1, Bool.and_eq_true, Nat.zero_add] at hc2
 rw [mbF] at hm
 simp only [mbL, hu0, hu1, Nat.zero_add] at hm
 have m1 : mbF a ≤ 20 - e.length ∧ mbF b + 1 + e.length ≤ 20 := by
  have : (Int.toNat 1) = 1 := rfl
  have : (Int.toNat 0) = 0 := rfl
  omega
 exact ⟨d2, ⟨hk a (by simp), by simpa using hc2.1, by omega⟩, hk b (by simp), by simpa using hc2.2.1, by simp only [List.length_cons]; omega⟩
theorem f_itoaS {n : Nat} {k : Int} (h : 0 ≤ k ∧ k ≤ 3) : FF (n + 2) 113 [nt k] [] = some ([sr [UInt8.ofNat (48 + k.toNat)]], []) := by
 have : k = 0 ∨ k = 1 ∨ k = 2 ∨ k = 3 := by omega
 rcases this with h | h | h | h <;> subst h <;> rw [E_spec_l19Dec, L_spec_l19Dec_0_eq] <;> rfl
theorem itoa_few {k : Int} (h : 0 ≤ k ∧ k ≤ 3) : Lib.itoa k = [UInt8.ofNat (48 + k.toNat)] := by
 have : k = 0 ∨ k = 1 ∨ k = 2 ∨ k = 3 := by omega
 rcases this with h | h | h | h <;> subst h
 ·exact itoa_one (x := 48) rfl
 ·exact itoa_one (x := 49) rfl
 ·exact itoa_one (x := 50) rfl
 ·exact itoa_one (x := 51) rfl
theorem f_termText2 {n : Nat} (hn : 10 ≤ n) {m : Int} {ts : List T} (h : 0 ≤ m ∧ m ≤ 3) : FF n 79 [tm (.mk 2 m ts)] [] = some ([sr [42, UInt8.ofNat (48 + m.toNat)]], []) := by
 obtain ⟨n, rfl⟩ : ∃ j, n = j + 2 := ⟨n - 2, by omega⟩
 show FF (n + 2) 79 [.agg [.int .i64 2, .int .i64 m, .fr (.ts ts)]] [] = _
 rw [E_impl_termText]
 rw [f_shapes (by omega)]
 simp only [evt]
 rw [show IntKind.i64.wrap ((2 : Int) - 1) = 1 from rfl, show decide ((0 : Int) ≤ 1) = true from rfl, cond_true, show (shps.map bytesOf)[(1 : Int).toNat]? = some (bytesOf [42]) from rfl]
 simp only [Option.bind_some]
 rw [show decide ((2 : Int) = 1) = false from rfl, cond_false]
 have hI := f_Itoa (n := n) (k := m) h.1 (by omega)
 simp only [nt] at hI
 rw [hI, itoa_few h]
 simp only [evt]
 rw [szc (by rw [by_size, by_size]; simp), by_app]
 rfl
theorem ix_env {e : List UInt8} {m : Int} (h0 : 0 ≤ m) (h1 : m < e.length) : (e.reverse)[e.length - 1 - m.toNat]? = some (e.getD m.toNat 0) := by
 have hm : m.toNat < e.length := by omega
 rw [List.getElem?_reverse (by omega), show e.length - 1 - (e.length - 1 - m.toNat) = m.toNat by omega, List.getElem?_eq_getElem hm, List.getD_eq_getElem?_getD, List.getElem?_eq_getElem hm]; rfl
theorem var_text {e : List UInt8} {m : Int} (he : e.length ≤ 1000) (h0 : 0 ≤ m) (h1 : m < e.length) :
   Go.Ab.inB (IntKind.i64.wrap ((IntKind.i64.wrap ((((bytesOf e.reverse).size : Nat) : Int) - 1)) - m)) (IntKind.i64.wrap ((IntKind.i64.wrap ((IntKind.i64.wrap ((((bytesOf e.reverse).size : Nat) : Int) - 1)) - m)) + 1)) (bytesOf e.reverse).size = true ∧
   (bytesOf e.reverse).extract ((IntKind.i64.wrap ((IntKind.i64.wrap ((((bytesOf e.reverse).size : Nat) : Int) - 1)) - m)) : Int).toNat ((IntKind.i64.wrap ((IntKind.i64.wrap ((IntKind.i64.wrap ((((bytesOf e.reverse).size : Nat) : Int) - 1)) - m)) + 1)) : Int).toNat = bytesOf [e.getD m.toNat 0] := by
 rw [by_size, List.length_reverse, wrap64 (show -9223372036854775808 ≤ (e.length : Int) - 1 ∧ (e.length : Int) - 1 ≤ 9223372036854775807 by omega), wrap64 (show -9223372036854775808 ≤ (e.length : Int) - 1 - m ∧ (e.length : Int) - 1 - m ≤ 9223372036854775807 by omega), wrap64 (show -9223372036854775808 ≤ (e.length : Int) - 1 - m + 1 ∧ (e.length : Int) - 1 - m + 1 ≤ 9223372036854775807 by omega)]
 constructor
 ·simp only [inB, Bool.and_eq_true, decide_eq_true_eq]; omega
 ·rw [by_ext, show ((e.length : Int) - 1 - m).toNat = e.length - 1 - m.toNat by omega, show ((e.length : Int) - 1 - m + 1).toNat = e.length - 1 - m.toNat + 1 by omega, List.drop_take]
  have hlt : e.length - 1 - m.toNat < e.reverse.length := by rw [List.length_reverse]; omega
  have hg := ix_env h0 h1
  rw [List.getElem?_eq_getElem hlt] at hg
  rw [List.drop_eq_getElem_cons hlt, Option.some.inj hg]
  simp
theorem len3 {α : Type} {l : List α} (h : l.length = 3) : ∃ a b c, l = [a, b, c] := by
 match l, h with
 | [a, b, c], _ => exact ⟨a, b, c, rfl⟩
theorem len4 {α : Type} {l : List α} (h : l.length = 4) : ∃ a b c d, l = [a, b, c, d] := by
 match l, h with
 | [a, b, c, d], _ => exact ⟨a, b, c, d, rfl⟩
theorem f_shown (t : T) : ∀ {n d : Nat} {e : List UInt8}, t.size + 70 ≤ n → t.size ≤ 100000 → SH t d e → FF n 40 [tm t, sr e.reverse] [] = some ([sr (shN e t)], []) := by
 induction t using T.ind with | h t ih =>
 intro n d e hn hz hsh
 cases t with
 | mk k n1 ts =>
 obtain ⟨n, rfl⟩ := pos_succ (show 0 < n by omega)
 obtain ⟨d2, _, ho, hnn, _⟩ := shape_node hsh.1
 have hel : e.length ≤ 20 := by have := hsh.2.2; omega
 have hsz : (T.mk k n1 ts).size = 1 + T.sizeL ts := rfl
 have hlen := T.sizeL_len ts
 have flat : isBd k = false → 3 ≤ k → k ≤ 16 → ts.length ≤ 10 → ∀ (sh p0 : List UInt8) (ps : List (List UInt8)), shps[(k - 1).toNat]? = some sh → shTab.lookup sh = some (p0 :: ps) → ps.length = ts.length → (∀ p ∈ p0 :: ps, p.length ≤ 3) → FF (n + 1) 40 [tm (.mk k n1 ts), sr e.reverse] [] = some ([sr (p0 ++ catP (ts.map (shN e)) ps)], []) := by
  intro hb h3 h16 hl sh p0 ps h1 h2 h4 h5
  obtain ⟨d3, hkids⟩ := sh_flat hsh hb
  have := shown_node (n := n) (k := k) (n1 := n1) (ts := ts) (e := e) (xs := ts.map (shN e)) (by omega) (by omega) ⟨h3, h16⟩ h1 h2 (by simp) h4 hl h5 (by have := sumL_map_le e ts; omega) (fun j hj => by
   rw [under_flat hb, if_neg (by omega), List.getElem_map]
   have := T.sizeL_mem (List.getElem_mem hj)
   exact ih _ (List.getElem_mem hj) (by omega) (by omega) (hkids _ (List.getElem_mem hj)))
  rw [if_neg (by simp [hb])] at this
  exact this
 have two : ∀ {a b : T}, isBd k = true → ts = [a, b] → 3 ≤ k → k ≤ 16 → ∀ (sh p0 : List UInt8) (ps : List (List UInt8)), shps[(k - 1).toNat]? = some sh → shTab.lookup sh = some (p0 :: ps) → ps.length = 2 → (∀ p ∈ p0 :: ps, p.length ≤ 3) → FF (n + 1) 40 [tm (.mk k n1 ts), sr e.reverse] [] = some ([sr ((p0 ++ [frL e, 58]) ++ catP [shN e a, shN (frL e :: e) b] ps)], []) := by
  intro a b hb hts h3 h16 sh p0 ps h1 h2 h4 h5
  subst hts
  obtain ⟨d3, ha, hbb⟩ := sh_two hsh hb
  obtain ⟨hu0, hu1⟩ := under_two hb
  have hs2 : T.sizeL [a, b] = a.size + (b.size + 0) := rfl
  have := shown_node (n := n) (k := k) (n1 := n1) (ts := [a, b]) (e := e) (xs := [shN e a, shN (frL e :: e) b]) (by omega) (by omega) ⟨h3, h16⟩ h1 h2 rfl h4 (by simp) h5 (by have := shN_bd a e; have := shN_bd b (frL e :: e); simp only [sumL, List.map_cons, List.map_nil, List.sum_cons, List.sum_nil]; omega) (fun j hj => by
   match j, hj with
   | 0, _ => rw [hu0, if_neg (by decide)]; exact ih a (by simp [mk_kids]) (by omega) (by omega) ha
   | 1, _ => rw [hu1, if_pos (by decide), if_pos hb]; exact ih b (by simp [mk_kids]) (by omega) (by omega) hbb)
  rw [if_pos hb] at this
  exact this
 have hcl := hsh.2.1
 rw [clF] at hcl
 simp only [Bool.and_eq_true, Bool.not_eq_true', Bool.and_eq_false_iff, decide_eq_false_iff_not] at hcl
 rw [shN]
 rcases kind_of ho with ⟨h, hl⟩ | ⟨h, hl⟩ | ⟨h, hl⟩ | ⟨h, hl⟩ | ⟨h, hl⟩
 ·have hts := List.eq_nil_of_length_eq_zero hl
  subst hts
  rcases h with h | h | h | h <;> subst h
  ·have h1 : n1 < e.length := by rcases hcl.1 with h | h <;> omega
   obtain ⟨v1, v2⟩ := var_text (e := e) (by omega) hnn.1 h1
   show FF (n + 1) 40 [.agg [.int .i64 1, .int .i64 n1, .fr (.ts [])], .one (.str (bytesOf e.reverse))] [] = _
   rw [E_impl_shown]
   rw [show decide ((1 : Int) = 1) = true from rfl, cond_true, v1, cond_true, v2, if_pos rfl]
  ·rw [show mostOf 2 = 3 from rfl] at hnn
   have ht : FF n 79 [.agg [.int .i64 2, .int .i64 n1, .fr (.ts [])]] [] = _ := f_termText2 (n := n) (ts := []) (by omega) hnn
   show FF (n + 1) 40 [.agg [.int .i64 2, .int .i64 n1, .fr (.ts [])], .one (.str (bytesOf e.reverse))] [] = _
   rw [E_impl_shown]
   rw [show decide ((2 : Int) = 1) = false from rfl, cond_false, show decide ((2 : Int) = 2) = true from rfl, cond_true, ht]
   simp only [evt]
   rw [if_neg (by decide), if_pos trivial]
  ·rw [flat rfl (by decide) (by decide) (by simp) [78] [78] [] rfl rfl rfl (by decide), if_neg (by decide), if_neg (by decide), show isBd 6 = false from rfl, if_neg (by decide), shNL_same]
   simp [wv, catP, joinC]
  ·rw [flat rfl (by decide) (by decide) (by simp) [48] [48] [] rfl rfl rfl (by decide), if_neg (by decide), if_neg (by decide), show isBd 7 = false from rfl, if_neg (by decide), shNL_same]
   simp [wv, catP, joinC]
 ·obtain ⟨a, rfl⟩ := len1 hl
  rcases h with h | h | h | h <;> subst h
  ·rw [flat rfl (by decide) (by decide) (by simp) [43, 46] [43] [[]] rfl rfl rfl (by decide), if_neg (by decide), if_neg (by decide), show isBd 8 = false from rfl, if_neg (by decide), shNL_same]
   simp [wv, catP, joinC]
  ·rw [flat rfl (by decide) (by decide) (by simp) [33, 46] [33] [[]] rfl rfl rfl (by decide), if_neg (by decide), if_neg (by decide), show isBd 11 = false from rfl, if_neg (by decide), shNL_same]
   simp [wv, catP, joinC]
  ·rw [flat rfl (by decide) (by decide) (by simp) [94, 46] [94] [[]] rfl rfl rfl (by decide), if_neg (by decide), if_neg (by decide), show isBd 15 = false from rfl, if_neg (by decide), shNL_same]
   simp [wv, catP, joinC]
  ·rw [flat rfl (by decide) (by decide) (by simp) [95, 46] [95] [[]] rfl rfl rfl (by decide), if_neg (by decide), if_neg (by decide), show isBd 16 = false from rfl, if_neg (by decide), shNL_same]
   simp [wv, catP, joinC]
 ·obtain ⟨a, b, rfl⟩ := len2 hl
  rcases h with h | h | h | h <;> subst h
  ·rw [two rfl rfl (by decide) (by decide) [40, 46, 62, 46, 41] [40] [[62], [41]] rfl rfl rfl (by decide), if_neg (by decide), if_neg (by decide), show isBd 3 = true from rfl, if_pos rfl]
   simp [wv, catP, shNL]
  ·rw [two rfl rfl (by decide) (by decide) [91, 46, 93, 46] [91] [[93], []] rfl rfl rfl (by decide), if_neg (by decide), if_neg (by decide), show isBd 4 = true from rfl, if_pos rfl]
   simp [wv, catP, shNL]
  ·rw [flat rfl (by decide) (by decide) (by simp) [40, 46, 32, 46, 41] [40] [[32], [41]] rfl rfl rfl (by decide), if_neg (by decide), if_neg (by decide), show isBd 5 = false from rfl, if_neg (by decide), shNL_same]
   simp [wv, catP, joinC]
  ·rw [two rfl rfl (by decide) (by decide) [40, 46, 42, 46, 41] [40] [[42], [41]] rfl rfl rfl (by decide), if_neg (by decide), if_neg (by decide), show isBd 13 = true from rfl, if_pos rfl]
   simp [wv, catP, shNL]
 ·obtain ⟨a, b, c, rfl⟩ := len3 hl
  rcases h with h | h | h <;> subst h
  ·rw [flat rfl (by decide) (by decide) (by simp) [123, 46, 44, 46, 44, 46, 125] [123] [[44], [44], [125]] rfl rfl rfl (by decide), if_neg (by decide), if_neg (by decide), show isBd 10 = false from rfl, if_neg (by decide), shNL_same]
   simp [wv, catP, joinC]
  ·rw [flat rfl (by decide) (by decide) (by simp) [64, 60, 46, 44, 46, 44, 46, 62] [64, 60] [[44], [44], [62]] rfl rfl rfl (by decide), if_neg (by decide), if_neg (by decide), show isBd 12 = false from rfl, if_neg (by decide), shNL_same]
   simp [wv, catP, joinC]
  ·rw [flat rfl (by decide) (by decide) (by simp) [124, 46, 44, 46, 44, 46, 124] [124] [[44], [44], [124]] rfl rfl rfl (by decide), if_neg (by decide), if_neg (by decide), show isBd 14 = false from rfl, if_neg (by decide), shNL_same]
   simp [wv, catP, joinC]
 ·obtain ⟨a, b, c, q, rfl⟩ := len4 hl
  subst h
  rw [flat rfl (by decide) (by decide) (by simp) [60, 46, 44, 46, 44, 46, 44, 46, 62] [60] [[44], [44], [44], [62]] rfl rfl rfl (by decide), if_neg (by decide), if_neg (by decide), show isBd 9 = false from rfl, if_neg (by decide), shNL_same]
  simp [wv, catP, joinC]
end Go.Proofs.YtnogehmgpfpjmaaGreatDoor
end
section
namespace Go.Proofs.YtnogehmgpfpjmaaGreatDoor
open Go Go.Ab Go.Dk
theorem szd {a : Nat} [inst : Decidable (a ≤ 9223372036854775807)] (h : a ≤ 1000000000) : @decide (a ≤ 9223372036854775807) inst = true := by
 rw [decide_eq_true_eq]; omega
theorem mk_one (c : UInt8) : ByteArray.mk ([c]).toArray = bytesOf [c] := rfl
theorem f_l6Bound {n : Nat} {k n1 : Int} {a b : T} {e xa xb : List UInt8} (hn : 100 ≤ n) (he : e.length ≤ 20) (hk : k = 3 ∨ k = 4 ∨ k = 13) (h1 : xa.length ≤ 1000000) (h2 : xb.length ≤ 1000000)
   (ha : FF n 49 [tm a, sr e.reverse] [] = some ([sr xa], [])) (hb : FF n 49 [tm b, sr (frL e :: e).reverse] [] = some ([sr xb], [])) :
   FF (n + 1) 91 [.agg [.int .i64 k, .int .i64 n1, .fr (.ts [a, b])], sr e.reverse] [] = some ([sr (wv k (frL e) [xa, xb])], []) := by
 have hf := f_l6Fresh (n := n) (by omega) e he
 simp only [sr, List.reverse_cons] at hf ha hb
 rw [E_spec_l6Bound, hf]
 simp only [evt]
 rw [byte_ok, cond_true, byte_rt]
 simp only [mk_one, by_app]
 simp only [show ([a, b])[(0 : Int).toNat]? = some a from rfl, show ([a, b])[(1 : Int).toNat]? = some b from rfl, Option.bind_some]
 simp only [show (V1.agg [.int .i64 a.k, .int .i64 a.n, .fr (.ts a.kids)]) = tm a from rfl, show (V1.agg [.int .i64 b.k, .int .i64 b.n, .fr (.ts b.kids)]) = tm b from rfl]
 rw [ha, hb]
 simp (disch := omega) only [evt, by_app, by_size, List.length_append, List.length_cons, List.length_nil, List.length_reverse, szd, cond_true]
 rcases hk with h | h | h <;> subst h
 ·simp [wv]
 ·simp [wv]
 ·simp [wv]
theorem f_l1Text0 {n : Nat} (hn : 10 ≤ n) {k m : Int} (h : (k = 2 ∧ 0 ≤ m ∧ m ≤ 3) ∨ k = 6 ∨ k = 7) : FF n 93 [.agg [.int .i64 k, .int .i64 m, .fr (.ts [])]] [] = some ([sr (if k = 2 then [42, UInt8.ofNat (48 + m.toNat)] else if k = 6 then [78] else [48])], []) := by
 obtain ⟨n, rfl⟩ : ∃ j, n = j + 3 := ⟨n - 3, by omega⟩
 rcases h with ⟨h, h1⟩ | h | h <;> subst h <;> rw [E_spec_l1Text]
 ·have hI := f_itoaS (n := n) h1
  simp only [nt] at hI
  rw [show decide ((2 : Int) = 1) = false from rfl, cond_false, show decide ((2 : Int) = 2) = true from rfl, cond_true, hI]
  simp only [evt]
  rw [szc (by rw [by_size, by_size]; simp), by_app]
  rfl
 ·rfl
 ·rfl
theorem f_l6Show (t : T) : ∀ {n d : Nat} {e : List UInt8}, 2 * t.size + 150 ≤ n → t.size ≤ 10000 → SH t d e → FF n 49 [tm t, sr e.reverse] [] = some ([sr (shN e t)], []) := by
 induction t using T.ind with | h t ih =>
 intro n d e hn hz hsh
 cases t with
 | mk k n1 ts =>
 obtain ⟨n, rfl⟩ : ∃ j, n = j + 2 := ⟨n - 2, by omega⟩
 obtain ⟨d2, _, ho, hnn, _⟩ := shape_node hsh.1
 have hel : e.length ≤ 20 := by have := hsh.2.2; omega
 have hsz : (T.mk k n1 ts).size = 1 + T.sizeL ts := rfl
 have hlen := T.sizeL_len ts
 have flat : isBd k = false → ∀ m, n ≤ m → ∀ u ∈ ts, FF m 49 [tm u, sr e.reverse] [] = some ([sr (shN e u)], []) := by
  intro hb m hm u hu
  obtain ⟨d3, hkids⟩ := sh_flat hsh hb
  have := T.sizeL_mem hu
  exact ih u hu (by omega) (by omega) (hkids u hu)
 have bd : ∀ (u : T) (e : List UInt8), u ∈ ts → (shN e u).length ≤ 100000 := fun u e hu => by have := shN_bd u e; have := T.sizeL_mem hu; omega
 have two : ∀ {a b : T}, isBd k = true → ts = [a, b] → FF (n + 1) 91 [.agg [.int .i64 k, .int .i64 n1, .fr (.ts ts)], sr e.reverse] [] = some ([sr (wv k (frL e) [shN e a, shN (frL e :: e) b])], []) := by
  intro a b hb hts
  subst hts
  obtain ⟨d3, ha, hbb⟩ := sh_two hsh hb
  have hs2 : T.sizeL [a, b] = a.size + (b.size + 0) := rfl
  refine f_l6Bound (by omega) hel (by simpa [isBd] using hb) (by have := bd a e (by simp); omega) (by have := bd b (frL e :: e) (by simp); omega) ?_ ?_
  ·exact ih a (by simp [mk_kids]) (by omega) (by omega) ha
  ·exact ih b (by simp [mk_kids]) (by omega) (by omega) hbb
 have list : isBd k = false → ts ≠ [] → ts.length ≤ 10 → FF (n + 1) 92 [tms ts, sr e.reverse] [] = some ([sr (joinC (ts.map (shN e)))], []) := by
  intro hb h0 hl
  have := f_l6List (n := n) (by omega) ts e.reverse h0 hl (by omega) (by rw [List.reverse_reverse]; exact flat hb n (by omega))
  rw [List.reverse_reverse] at this
  exact this
 have jb : isBd k = false → (joinC (ts.map (shN e))).length ≤ 200000 := fun _ => by
  have h1 := joinC_le (ts.map (shN e)); have := sumL_map_le e ts; rw [List.length_map] at h1; omega
 have hcl := hsh.2.1
 rw [clF] at hcl
 simp only [Bool.and_eq_true, Bool.not_eq_true', Bool.and_eq_false_iff, decide_eq_false_iff_not] at hcl
 rw [shN]
 show FF (n + 1 + 1) 49 [.agg [.int .i64 k, .int .i64 n1, .fr (.ts ts)], .one (.str (bytesOf e.reverse))] [] = _
 rw [E_spec_l6Show]
 simp only [tms, sr] at list two
 rcases kind_of ho with ⟨h, hl⟩ | ⟨h, hl⟩ | ⟨h, hl⟩ | ⟨h, hl⟩ | ⟨h, hl⟩
 ·have hts := List.eq_nil_of_length_eq_zero hl
  subst hts
  rcases h with h | h | h | h <;> subst h
  ·have h1 : n1 < e.length := by rcases hcl.1 with h | h <;> omega
   obtain ⟨v1, v2⟩ := var_text (e := e) (by omega) hnn.1 h1
   rw [show decide ((1 : Int) = 1) = true from rfl, cond_true, v1, cond_true, v2, if_pos rfl]
  ·rw [show mostOf 2 = 3 from rfl] at hnn
   rw [show decide ((2 : Int) = 1) = false from rfl, cond_false, show decide ((2 : Int) = 4) = false from rfl, cond_false, show decide ((2 : Int) = 3) = false from rfl, cond_false, show decide ((2 : Int) = 13) = false from rfl, cond_false, show decide ((2 : Int) = 8) = false from rfl, cond_false, show decide ((2 : Int) = 11) = false from rfl, cond_false, show decide ((2 : Int) = 15) = false from rfl, cond_false, show decide ((2 : Int) = 16) = false from rfl, cond_false, show decide ((2 : Int) = 5) = false from rfl, cond_false, show decide ((2 : Int) = 10) = false from rfl, cond_false, show decide ((2 : Int) = 14) = false from rfl, cond_false, show decide ((2 : Int) = 12) = false from rfl, cond_false, show decide ((2 : Int) = 9) = false from rfl, cond_false, f_l1Text0 (by omega) (.inl ⟨rfl, hnn⟩)]
   simp only [evt]
   rfl
  ·rw [show decide ((6 : Int) = 1) = false from rfl, cond_false, show decide ((6 : Int) = 4) = false from rfl, cond_false, show decide ((6 : Int) = 3) = false from rfl, cond_false, show decide ((6 : Int) = 13) = false from rfl, cond_false, show decide ((6 : Int) = 8) = false from rfl, cond_false, show decide ((6 : Int) = 11) = false from rfl, cond_false, show decide ((6 : Int) = 15) = false from rfl, cond_false, show decide ((6 : Int) = 16) = false from rfl, cond_false, show decide ((6 : Int) = 5) = false from rfl, cond_false, show decide ((6 : Int) = 10) = false from rfl, cond_false, show decide ((6 : Int) = 14) = false from rfl, cond_false, show decide ((6 : Int) = 12) = false from rfl, cond_false, show decide ((6 : Int) = 9) = false from rfl, cond_false, f_l1Text0 (by omega) (.inr (.inl rfl))]
   simp only [evt]
   rfl
  ·rw [show decide ((7 : Int) = 1) = false from rfl, cond_false, show decide ((7 : Int) = 4) = false from rfl, cond_false, show decide ((7 : Int) = 3) = false from rfl, cond_false, show decide ((7 : Int) = 13) = false from rfl, cond_false, show decide ((7 : Int) = 8) = false from rfl, cond_false, show decide ((7 : Int) = 11) = false from rfl, cond_false, show decide ((7 : Int) = 15) = false from rfl, cond_false, show decide ((7 : Int) = 16) = false from rfl, cond_false, show decide ((7 : Int) = 5) = false from rfl, cond_false, show decide ((7 : Int) = 10) = false from rfl, cond_false, show decide ((7 : Int) = 14) = false from rfl, cond_false, show decide ((7 : Int) = 12) = false from rfl, cond_false, show decide ((7 : Int) = 9) = false from rfl, cond_false, f_l1Text0 (by omega) (.inr (.inr rfl))]
   simp only [evt]
   rfl
 ·obtain ⟨a, rfl⟩ := len1 hl
  have hba := bd a e (by simp)
  rcases h with h | h | h | h <;> subst h
  ·have ha := flat rfl (n + 1) (by omega) a (by simp)
   simp only [sr] at ha
   rw [show decide ((8 : Int) = 1) = false from rfl, cond_false, show decide ((8 : Int) = 4) = false from rfl, cond_false, show decide ((8 : Int) = 3) = false from rfl, cond_false, show decide ((8 : Int) = 13) = false from rfl, cond_false, show decide ((8 : Int) = 8) = true from rfl, cond_true, show ([a])[(0 : Int).toNat]? = some a from rfl]
   simp only [Option.bind_some]
   rw [show (V1.agg [.int .i64 a.k, .int .i64 a.n, .fr (.ts a.kids)]) = tm a from rfl, ha]
   simp only [evt]
   rw [szc (by rw [by_size, by_size]; simp only [List.length_cons, List.length_nil]; omega), cond_true, by_app, if_neg (by decide), if_neg (by decide), show isBd 8 = false from rfl, if_neg (by decide), shNL_same]
   simp [wv]
  ·have ha := flat rfl (n + 1) (by omega) a (by simp)
   simp only [sr] at ha
   rw [show decide ((11 : Int) = 1) = false from rfl, cond_false, show decide ((11 : Int) = 4) = false from rfl, cond_false, show decide ((11 : Int) = 3) = false from rfl, cond_false, show decide ((11 : Int) = 13) = false from rfl, cond_false, show decide ((11 : Int) = 8) = false from rfl, cond_false, show decide ((11 : Int) = 11) = true from rfl, cond_true, show ([a])[(0 : Int).toNat]? = some a from rfl]
   simp only [Option.bind_some]
   rw [show (V1.agg [.int .i64 a.k, .int .i64 a.n, .fr (.ts a.kids)]) = tm a from rfl, ha]
   simp only [evt]
   rw [szc (by rw [by_size, by_size]; simp only [List.length_cons, List.length_nil]; omega), cond_true, by_app, if_neg (by decide), if_neg (by decide), show isBd 11 = false from rfl, if_neg (by decide), shNL_same]
   simp [wv]
  ·have ha := flat rfl (n + 1) (by omega) a (by simp)
   simp only [sr] at ha
   rw [show decide ((15 : Int) = 1) = false from rfl, cond_false, show decide ((15 : Int) = 4) = false from rfl, cond_false, show decide ((15 : Int) = 3) = false from rfl, cond_false, show decide ((15 : Int) = 13) = false from rfl, cond_false, show decide ((15 : Int) = 8) = false from rfl, cond_false, show decide ((15 : Int) = 11) = false from rfl, cond_false, show decide ((15 : Int) = 15) = true from rfl, cond_true, show ([a])[(0 : Int).toNat]? = some a from rfl]
   simp only [Option.bind_some]
   rw [show (V1.agg [.int .i64 a.k, .int .i64 a.n, .fr (.ts a.kids)]) = tm a from rfl, ha]
   simp only [evt]
   rw [szc (by rw [by_size, by_size]; simp only [List.length_cons, List.length_nil]; omega), cond_true, by_app, if_neg (by decide), if_neg (by decide), show isBd 15 = false from rfl, if_neg (by decide), shNL_same]
   simp [wv]
  ·have ha := flat rfl (n + 1) (by omega) a (by simp)
   simp only [sr] at ha
   rw [show decide ((16 : Int) = 1) = false from rfl, cond_false, show decide ((16 : Int) = 4) = false from rfl, cond_false, show decide ((16 : Int) = 3) = false from rfl, cond_false, show decide ((16 : Int) = 13) = false from rfl, cond_false, show decide ((16 : Int) = 8) = false from rfl, cond_false, show decide ((16 : Int) = 11) = false from rfl, cond_false, show decide ((16 : Int) = 15) = false from rfl, cond_false, show decide ((16 : Int) = 16) = true from rfl, cond_true, show ([a])[(0 : Int).toNat]? = some a from rfl]
   simp only [Option.bind_some]
   rw [show (V1.agg [.int .i64 a.k, .int .i64 a.n, .fr (.ts a.kids)]) = tm a from rfl, ha]
   simp only [evt]
   rw [szc (by rw [by_size, by_size]; simp only [List.length_cons, List.length_nil]; omega), cond_true, by_app, if_neg (by decide), if_neg (by decide), show isBd 16 = false from rfl, if_neg (by decide), shNL_same]
   simp [wv]
 ·obtain ⟨a, b, rfl⟩ := len2 hl
  have hba := bd a e (by simp)
  have hbb := bd b e (by simp)
  rcases h with h | h | h | h <;> subst h
  ·rw [show decide ((3 : Int) = 1) = false from rfl, cond_false, show decide ((3 : Int) = 4) = false from rfl, cond_false, show decide ((3 : Int) = 3) = true from rfl, cond_true, two rfl rfl]
   simp only [evt]
   rw [if_neg (by decide), if_neg (by decide), show isBd 3 = true from rfl, if_pos rfl]
   simp [shNL]
  ·rw [show decide ((4 : Int) = 1) = false from rfl, cond_false, show decide ((4 : Int) = 4) = true from rfl, cond_true, two rfl rfl]
   simp only [evt]
   rw [if_neg (by decide), if_neg (by decide), show isBd 4 = true from rfl, if_pos rfl]
   simp [shNL]
  ·have ha := flat rfl (n + 1) (by omega) a (by simp)
   have hb := flat rfl (n + 1) (by omega) b (by simp)
   simp only [sr] at ha hb
   rw [show decide ((5 : Int) = 1) = false from rfl, cond_false, show decide ((5 : Int) = 4) = false from rfl, cond_false, show decide ((5 : Int) = 3) = false from rfl, cond_false, show decide ((5 : Int) = 13) = false from rfl, cond_false, show decide ((5 : Int) = 8) = false from rfl, cond_false, show decide ((5 : Int) = 11) = false from rfl, cond_false, show decide ((5 : Int) = 15) = false from rfl, cond_false, show decide ((5 : Int) = 16) = false from rfl, cond_false, show decide ((5 : Int) = 5) = true from rfl, cond_true, show ([a, b])[(0 : Int).toNat]? = some a from rfl, show ([a, b])[(1 : Int).toNat]? = some b from rfl]
   simp only [Option.bind_some]
   rw [show (V1.agg [.int .i64 a.k, .int .i64 a.n, .fr (.ts a.kids)]) = tm a from rfl, show (V1.agg [.int .i64 b.k, .int .i64 b.n, .fr (.ts b.kids)]) = tm b from rfl, ha, hb]
   simp (disch := omega) only [evt, by_app, by_size, List.length_append, List.length_cons, List.length_nil, szd, cond_true]
   rw [if_neg (by decide), if_neg (by decide), show isBd 5 = false from rfl, if_neg (by decide), shNL_same]
   simp [wv]
  ·rw [show decide ((13 : Int) = 1) = false from rfl, cond_false, show decide ((13 : Int) = 4) = false from rfl, cond_false, show decide ((13 : Int) = 3) = false from rfl, cond_false, show decide ((13 : Int) = 13) = true from rfl, cond_true, two rfl rfl]
   simp only [evt]
   rw [if_neg (by decide), if_neg (by decide), show isBd 13 = true from rfl, if_pos rfl]
   simp [shNL]
 ·obtain ⟨a, b, c, rfl⟩ := len3 hl
  rcases h with h | h | h <;> subst h
  ·have hj := jb rfl
   rw [show decide ((10 : Int) = 1) = false from rfl, cond_false, show decide ((10 : Int) = 4) = false from rfl, cond_false, show decide ((10 : Int) = 3) = false from rfl, cond_false, show decide ((10 : Int) = 13) = false from rfl, cond_false, show decide ((10 : Int) = 8) = false from rfl, cond_false, show decide ((10 : Int) = 11) = false from rfl, cond_false, show decide ((10 : Int) = 15) = false from rfl, cond_false, show decide ((10 : Int) = 16) = false from rfl, cond_false, show decide ((10 : Int) = 5) = false from rfl, cond_false, show decide ((10 : Int) = 10) = true from rfl, cond_true, list rfl (by simp) (by simp)]
   simp (disch := omega) only [evt, by_app, by_size, List.length_append, List.length_cons, List.length_nil, szd, cond_true]
   rw [if_neg (by decide), if_neg (by decide), show isBd 10 = false from rfl, if_neg (by decide), shNL_same]
   simp [wv]
  ·have hj := jb rfl
   rw [show decide ((12 : Int) = 1) = false from rfl, cond_false, show decide ((12 : Int) = 4) = false from rfl, cond_false, show decide ((12 : Int) = 3) = false from rfl, cond_false, show decide ((12 : Int) = 13) = false from rfl, cond_false, show decide ((12 : Int) = 8) = false from rfl, cond_false, show decide ((12 : Int) = 11) = false from rfl, cond_false, show decide ((12 : Int) = 15) = false from rfl, cond_false, show decide ((12 : Int) = 16) = false from rfl, cond_false, show decide ((12 : Int) = 5) = false from rfl, cond_false, show decide ((12 : Int) = 10) = false from rfl, cond_false, show decide ((12 : Int) = 14) = false from rfl, cond_false, show decide ((12 : Int) = 12) = true from rfl, cond_true, list rfl (by simp) (by simp)]
   simp (disch := omega) only [evt, by_app, by_size, List.length_append, List.length_cons, List.length_nil, szd, cond_true]
   rw [if_neg (by decide), if_neg (by decide), show isBd 12 = false from rfl, if_neg (by decide), shNL_same]
   simp [wv]
  ·have hj := jb rfl
   rw [show decide ((14 : Int) = 1) = false from rfl, cond_false, show decide ((14 : Int) = 4) = false from rfl, cond_false, show decide ((14 : Int) = 3) = false from rfl, cond_false, show decide ((14 : Int) = 13) = false from rfl, cond_false, show decide ((14 : Int) = 8) = false from rfl, cond_false, show decide ((14 : Int) = 11) = false from rfl, cond_false, show decide ((14 : Int) = 15) = false from rfl, cond_false, show decide ((14 : Int) = 16) = false from rfl, cond_false, show decide ((14 : Int) = 5) = false from rfl, cond_false, show decide ((14 : Int) = 10) = false from rfl, cond_false, show decide ((14 : Int) = 14) = true from rfl, cond_true, list rfl (by simp) (by simp)]
   simp (disch := omega) only [evt, by_app, by_size, List.length_append, List.length_cons, List.length_nil, szd, cond_true]
   rw [if_neg (by decide), if_neg (by decide), show isBd 14 = false from rfl, if_neg (by decide), shNL_same]
   simp [wv]
 ·obtain ⟨a, b, c, q, rfl⟩ := len4 hl
  subst h
  have hj := jb rfl
  rw [show decide ((9 : Int) = 1) = false from rfl, cond_false, show decide ((9 : Int) = 4) = false from rfl, cond_false, show decide ((9 : Int) = 3) = false from rfl, cond_false, show decide ((9 : Int) = 13) = false from rfl, cond_false, show decide ((9 : Int) = 8) = false from rfl, cond_false, show decide ((9 : Int) = 11) = false from rfl, cond_false, show decide ((9 : Int) = 15) = false from rfl, cond_false, show decide ((9 : Int) = 16) = false from rfl, cond_false, show decide ((9 : Int) = 5) = false from rfl, cond_false, show decide ((9 : Int) = 10) = false from rfl, cond_false, show decide ((9 : Int) = 14) = false from rfl, cond_false, show decide ((9 : Int) = 12) = false from rfl, cond_false, show decide ((9 : Int) = 9) = true from rfl, cond_true, list rfl (by simp) (by simp)]
  simp (disch := omega) only [evt, by_app, by_size, List.length_append, List.length_cons, List.length_nil, szd, cond_true]
  rw [if_neg (by decide), if_neg (by decide), show isBd 9 = false from rfl, if_neg (by decide), shNL_same]
  simp [wv]
end Go.Proofs.YtnogehmgpfpjmaaGreatDoor
end
section
namespace Go.Proofs.YtnogehmgpfpjmaaGreatDoor
open Go Go.Ab Go.Dk
theorem eqf_loop (n : Nat) (ts us : List T) (hl : ts.length ≤ 4000000) (he : ts.length = us.length) (h : ∀ t ∈ ts, ∀ u, FF n 15 [tm t, tm u] [] = some ([bl (T.beq t u)], [])) :
   ∀ g m (i : Nat), g < m → i + g = ts.length → L_slices_EqualFunc_impl_TermSame_0 n m us ts ts.length i = some ([bl (T.beqL (ts.drop i) (us.drop i))], [])
 | g, 0, i, hg, _ => by omega
 | 0, m + 1, i, _, hi => by
  rw [L_slices_EqualFunc_impl_TermSame_0_eq, List.drop_of_length_le (by omega), List.drop_of_length_le (by omega)]
  simp only [cond_dec, if_neg (show ¬ (i : Int) < ts.length by omega), T.beqL]
 | g + 1, m + 1, i, hg, hi => by
  have hlt : i < ts.length := by omega
  have hlt2 : i < us.length := by omega
  rw [List.drop_eq_getElem_cons hlt, List.drop_eq_getElem_cons hlt2, T.beqL]
  rw [L_slices_EqualFunc_impl_TermSame_0_eq]; simp (disch := omega) only [evt, cond_dec, Int.toNat_natCast, cast1, wrap64, roomB_ok, List.length_append, List.length_cons, List.length_nil, if_pos (show (i : Int) < ts.length by omega), if_pos (show 0 ≤ (i : Int) by omega), List.getElem?_eq_getElem hlt, List.getElem?_eq_getElem hlt2, h _ (List.getElem_mem hlt)]
  cases hs : T.beq ts[i] us[i] with
  | false => simp
  | true =>
   simp only [Bool.not_true, cond_false, Bool.true_and]
   exact eqf_loop n ts us hl he h g m (i + 1) (by omega) (by omega)
theorem f_TermSame (t : T) : ∀ {n : Nat}, 2 * t.size + 5 ≤ n → t.size ≤ 4000000 → ∀ u : T, FF n 15 [tm t, tm u] [] = some ([bl (T.beq t u)], []) := by
 induction t using T.ind with | h t ih =>
 intro n hn hz u
 have hsz := T.size_eq t
 have hl := T.sizeL_len t.kids
 obtain ⟨n, rfl⟩ := pos_succ (show 0 < n by omega)
 rw [E_impl_TermSame, T.beq_eq]
 by_cases c1 : t.k = u.k
 ·by_cases c2 : t.n = u.n
  ·obtain ⟨n, rfl⟩ := pos_succ (show 0 < n by omega)
   rw [E_slices_EqualFunc_impl_TermSame]
   by_cases c3 : t.kids.length = u.kids.length
   ·have := eqf_loop n t.kids u.kids (by omega) c3 (fun v hv w => ih v hv (by have := T.sizeL_mem hv; omega) (by have := T.sizeL_mem hv; omega) w) t.kids.length n 0 (by omega) (by omega)
    rw [List.drop_zero, List.drop_zero] at this
    simp only [decide_eq_true c1, decide_eq_true c2, decide_eq_true (show (t.kids.length : Int) = u.kids.length by omega), Bool.not_true, cond_false, cond_true, Bool.true_and]
    rw [show (0 : Int) = ((0 : Nat) : Int) from rfl, this]
    simp only [evs]
   ·simp only [decide_eq_true c1, decide_eq_true c2, decide_eq_false (show ¬ (t.kids.length : Int) = u.kids.length by omega), Bool.not_true, Bool.not_false, cond_false, cond_true, Bool.true_and, beqL_len c3, evs]
  ·simp [c1, c2]
 ·simp [c1]
theorem kid_get {t : T} {i : Nat} (h : i < t.kids.length) : t.kids[i]? = some (kd t i) := by
 unfold kd; simp [List.getD, h]
theorem ops_len {t : T} (hv : validB t = true) {c : Nat} (h : opsOf t.k = c) : t.kids.length = c := by
 have := (validB_ops hv).1
 omega
abbrev ins (w : List Nat) : List Int := w.map fun i : Nat => (i : Int)
end Go.Proofs.YtnogehmgpfpjmaaGreatDoor
end
section
namespace Go.Proofs.YtnogehmgpfpjmaaGreatDoor
open Go Go.Ab Go.Dk
theorem nv_ok (l : List UInt8) : nvB (bytesOf l) = true ↔ nmOK l ∧ l.length ≤ 20 := by
 unfold nvB nmOK
 rw [Bool.and_eq_true, decide_eq_true_eq, by_size, List.all_eq_true]
 refine and_congr ?_ Iff.rfl
 have at_ : ∀ (i : Nat) (h : i < l.length), byteAt (bytesOf l) i = l[i] := fun i h => by rw [by_at, List.getElem?_eq_getElem h]; rfl
 constructor
 ·intro h
  have h1 : ∀ (i : Nat) (hi : i < l.length), letB l[i] = true ∧ l[i] ∉ l.take i := fun i hi => by
   have := h i (by simpa using hi)
   unfold nvAt at this
   rw [at_ i hi, Bool.and_eq_true, letB_eq, by_data, Bool.not_eq_true', ← Bool.not_eq_true, List.contains_iff_mem] at this
   exact this
  refine ⟨fun c hc => ?_, ?_⟩
  ·obtain ⟨i, hi, rfl⟩ := List.getElem_of_mem hc; exact (h1 i hi).1
  ·unfold List.Nodup
   rw [List.pairwise_iff_getElem]
   intro i j hi hj hij he
   refine (h1 j hj).2 ?_
   rw [← he]
   exact List.mem_take_iff_getElem.2 ⟨i, by omega, rfl⟩
 ·rintro ⟨h1, h2⟩ i hi
  have hi : i < l.length := by simpa using hi
  unfold nvAt
  rw [at_ i hi, Bool.and_eq_true, letB_eq, by_data, Bool.not_eq_true', ← Bool.not_eq_true, List.contains_iff_mem]
  refine ⟨h1 _ (List.getElem_mem hi), fun hm => ?_⟩
  obtain ⟨j, hj, he⟩ := List.mem_take_iff_getElem.1 hm
  unfold List.Nodup at h2
  rw [List.pairwise_iff_getElem] at h2
  exact h2 j i (by omega) hi (by omega) he
theorem nm_rev {l : List UInt8} (h : nmOK l) : nmOK l.reverse := ⟨fun c hc => h.1 c (by simpa using hc), by unfold List.Nodup; rw [List.pairwise_reverse]; exact List.Pairwise.imp (fun hab => Ne.symm hab) h.2⟩
def shX (t : T) (names : List UInt8) : List UInt8 := if validB t = true ∧ nvB (bytesOf names) = true ∧ mfN t ≤ names.length ∧ names.length + mbF t ≤ 20 then shN names.reverse t else []
theorem shX_len (t : T) (names : List UInt8) : (shX t names).length ≤ 3200 := by
 unfold shX
 split
 ·rename_i h
  have := shN_bd t names.reverse
  have := validB_size h.1
  omega
 ·simp
theorem valid_shape {t : T} (h : validB t = true) : shapeF t 30 = true := by unfold validB at h; rw [Bool.and_eq_true] at h; exact h.1
theorem SH_of {t : T} {names : List UInt8} (h : validB t = true ∧ nvB (bytesOf names) = true ∧ mfN t ≤ names.length ∧ names.length + mbF t ≤ 20) : SH t 30 names.reverse := by
 obtain ⟨h1, h2, h3, h4⟩ := h
 refine ⟨valid_shape h1, ?_, by rw [List.length_reverse]; exact h4⟩
 rw [List.length_reverse]
 exact (mfN_iff h1 _).1 h3
theorem f_ShowNamedI {n : Nat} {t : T} {names : List UInt8} (hn : 5000000 ≤ n) (hz : t.size ≤ 4000000) (hm : names.length ≤ 1048577) : FF n 16 [tm t, sr names] [] = some ([sr (shX t names)], []) := by
 obtain ⟨n, rfl⟩ := pos_succ (show 0 < n by omega)
 show FF (n + 1) 16 [.agg [.int .i64 t.k, .int .i64 t.n, .fr (.ts t.kids)], .one (.str (bytesOf names))] [] = _
 rw [E_impl_ShowNamed, show (V1.agg [.int .i64 t.k, .int .i64 t.n, .fr (.ts t.kids)]) = tm t from rfl, f_TermValid (by omega)]
 simp only [evt]
 unfold shX
 cases hv : validB t with
 | false => rw [if_neg (fun h => by cases h.1), Bool.not_false, cond_true]
 | true =>
  have hz := validB_size hv
  have hN := f_NamesValidI (n := n) names hm (by omega)
  simp only [sr] at hN
  rw [Bool.not_true, cond_false, hN]
  simp only [evt]
  cases hnv : nvB (bytesOf names) with
  | false => rw [if_neg (fun h => by cases h.2.1), Bool.not_false, cond_true]
  | true =>
   have h20 := nvB_size hnv
   rw [by_size] at h20
   rw [Bool.not_true, cond_false, f_maxFreeI (n := n) (by omega) hv]
   simp only [evt]
   rw [by_size]
   by_cases h3 : mfN t ≤ names.length
   ·rw [decide_eq_false (show ¬ ((names.length : Nat) : Int) < (mfN t : Int) by omega), cond_false, f_mostBinders t (by omega) (by omega)]
    simp only [evt]
    have hmb := mb_size t
    rw [wrap64 (show -9223372036854775808 ≤ ((names.length : Nat) : Int) + (mbF t : Int) ∧ ((names.length : Nat) : Int) + (mbF t : Int) ≤ 9223372036854775807 by omega)]
    by_cases h4 : names.length + mbF t ≤ 20
    ·have hh : validB t = true ∧ nvB (bytesOf names) = true ∧ mfN t ≤ names.length ∧ names.length + mbF t ≤ 20 := ⟨hv, hnv, h3, h4⟩
     have hs := f_shown t (n := n) (by omega) (by omega) (SH_of hh)
     rw [List.reverse_reverse] at hs
     simp only [sr] at hs
     rw [decide_eq_false (show ¬ (20 : Int) < ((names.length : Nat) : Int) + (mbF t : Int) by omega), cond_false, hs, if_pos ⟨trivial, trivial, h3, h4⟩]
     simp only [evt]
    ·rw [decide_eq_true (show (20 : Int) < ((names.length : Nat) : Int) + (mbF t : Int) by omega), cond_true, if_neg (fun h => h4 h.2.2.2)]
   ·rw [decide_eq_true (show ((names.length : Nat) : Int) < (mfN t : Int) by omega), cond_true, if_neg (fun h => h3 h.2.2.1)]
theorem f_ShowNamedS {n : Nat} {t : T} {names : List UInt8} (hn : 5000000 ≤ n) (hz : t.size ≤ 4000000) (hm : names.length ≤ 1048577) : FF n 23 [tm t, sr names] [] = some ([sr (shX t names)], []) := by
 obtain ⟨n, rfl⟩ := pos_succ (show 0 < n by omega)
 show FF (n + 1) 23 [.agg [.int .i64 t.k, .int .i64 t.n, .fr (.ts t.kids)], .one (.str (bytesOf names))] [] = _
 rw [E_spec_ShowNamed, show (V1.agg [.int .i64 t.k, .int .i64 t.n, .fr (.ts t.kids)]) = tm t from rfl, f_TermValidS (by omega) hz]
 simp only [evt]
 unfold shX
 cases hv : validB t with
 | false => rw [if_neg (fun h => by cases h.1), Bool.not_false, cond_true]
 | true =>
  have hz := validB_size hv
  have hN := f_NamesValidS (n := n) names hm (by omega)
  simp only [sr] at hN
  rw [Bool.not_true, cond_false, hN]
  simp only [evt]
  cases hnv : nvB (bytesOf names) with
  | false => rw [if_neg (fun h => by cases h.2.1), Bool.not_false, cond_true]
  | true =>
   have h20 := nvB_size hnv
   rw [by_size] at h20
   rw [Bool.not_true, cond_false, f_MaxFreeS (n := n) (by omega) hv]
   simp only [evt]
   rw [by_size]
   by_cases h3 : mfN t ≤ names.length
   ·rw [decide_eq_false (show ¬ ((names.length : Nat) : Int) < (mfN t : Int) by omega), cond_false, f_l6Deep t (by omega) (by omega)]
    simp only [evt]
    have hmb := mb_size t
    rw [wrap64 (show -9223372036854775808 ≤ (mbF t : Int) + ((names.length : Nat) : Int) ∧ (mbF t : Int) + ((names.length : Nat) : Int) ≤ 9223372036854775807 by omega)]
    by_cases h4 : names.length + mbF t ≤ 20
    ·have hh : validB t = true ∧ nvB (bytesOf names) = true ∧ mfN t ≤ names.length ∧ names.length + mbF t ≤ 20 := ⟨hv, hnv, h3, h4⟩
     have hs := f_l6Show t (n := n) (by omega) (by omega) (SH_of hh)
     rw [List.reverse_reverse] at hs
     simp only [sr] at hs
     rw [decide_eq_false (show ¬ (20 : Int) < (mbF t : Int) + ((names.length : Nat) : Int) by omega), cond_false, hs, if_pos ⟨trivial, trivial, h3, h4⟩]
     simp only [evt]
    ·rw [decide_eq_true (show (20 : Int) < (mbF t : Int) + ((names.length : Nat) : Int) by omega), cond_true, if_neg (fun h => h4 h.2.2.2)]
   ·rw [decide_eq_true (show ((names.length : Nat) : Int) < (mfN t : Int) by omega), cond_true, if_neg (fun h => h3 h.2.2.1)]
theorem sh_ps {t : T} {names : List UInt8} (h : shX t names ≠ []) : psX (shX t names) names = (t, true) ∧ validB t = true ∧ mfN t ≤ names.length ∧ nvB (bytesOf names) = true ∧ names.length + mbF t ≤ 20 := by
 unfold shX at h ⊢
 by_cases hc : validB t = true ∧ nvB (bytesOf names) = true ∧ mfN t ≤ names.length ∧ names.length + mbF t ≤ 20
 ·rw [if_pos hc]
  obtain ⟨s1, s2, s3⟩ := SH_of hc
  have hr := rd_sh t 30 names.reverse [] s1 s2 (nm_rev ((nv_ok names).1 hc.2.1).1) s3 rfl
  rw [List.append_nil] at hr
  refine ⟨?_, hc.1, hc.2.2.1, hc.2.1, hc.2.2.2⟩
  unfold psX psR
  rw [if_pos hc.2.1, hr]
  simp [hc.1]
 ·rw [if_neg hc] at h; exact absurd rfl h
theorem ps_ok {s names : List UInt8} (h : (psX s names).2 = true) : validB (psX s names).1 = true ∧ mfN (psX s names).1 ≤ names.length := by
 unfold psX at h ⊢
 split
 ·rename_i hn
  rw [if_pos hn] at h
  unfold psR at h ⊢
  split at h
  ·rename_i t hr
   split at h
   ·rename_i hv
    simp only [hv, if_true]
    refine ⟨trivial, (mfN_iff hv _).2 ?_⟩
    have := rd_cl 30 names.reverse s t [] hr
    rwa [List.length_reverse] at this
   ·cases h
  ·cases h
 ·rename_i hn; rw [if_neg hn] at h; cases h
theorem psR_or (s env : List UInt8) : (psR s env).2 = true ∨ psR s env = (.mk 0 0 [], false) := by
 unfold psR
 split
 ·split
  ·exact .inl rfl
  ·exact .inr rfl
 ·exact .inr rfl
theorem ps_size {s names : List UInt8} : (psX s names).1.size ≤ 400 := by
 cases h : (psX s names).2 with
 | true => exact validB_size (ps_ok h).1
 | false =>
  have : (psX s names).1 = .mk 0 0 [] := by
   unfold psX at h ⊢
   by_cases hn : nvB (bytesOf names) = true
   ·rw [if_pos hn] at h ⊢
    rcases psR_or s names.reverse with h2 | h2
    ·rw [h2] at h; cases h
    ·rw [h2]
   ·rw [if_neg hn]
  rw [this]; decide
def nsX (a b names : List UInt8) : Bool := (psX a names).2 && ((psX b names).2 && T.beq (psX a names).1 (psX b names).1)
theorem f_NamedSameI {n : Nat} {a b names : List UInt8} (hn : 5000100 ≤ n) (ha : a.length ≤ 3000000) (hb : b.length ≤ 3000000) (hm : names.length ≤ 1048577) : FF n 19 [sr a, sr b, sr names] [] = some ([bl (nsX a b names)], []) := by
 obtain ⟨n, rfl⟩ := pos_succ (show 0 < n by omega)
 have h1 := f_ParseNamedI (n := n) (by omega) ha hm
 have h2 := f_ParseNamedI (n := n) (by omega) hb hm
 simp only [sr] at h1 h2
 have := ps_size (s := a) (names := names)
 rw [E_impl_NamedSame, h1, h2]
 simp only [evt]
 rw [f_TermSame _ (by omega) (by omega)]
 simp only [evt]
 unfold nsX
 cases (psX a names).2 <;> cases (psX b names).2 <;> rfl
theorem f_NamedSameS {n : Nat} {a b names : List UInt8} (hn : 5000100 ≤ n) (ha : a.length ≤ 3000000) (hb : b.length ≤ 3000000) (hm : names.length ≤ 1048577) : FF n 21 [sr a, sr b, sr names] [] = some ([bl (nsX a b names)], []) := by
 obtain ⟨n, rfl⟩ := pos_succ (show 0 < n by omega)
 have h1 := f_ParseNamedS (n := n) (by omega) ha hm
 have h2 := f_ParseNamedS (n := n) (by omega) hb hm
 simp only [sr] at h1 h2
 have := ps_size (s := a) (names := names)
 rw [E_spec_NamedSame, h1, h2]
 simp only [evt]
 rw [f_TermSameS _ (by omega) (by omega)]
 simp only [evt]
 unfold nsX
 cases (psX a names).2 <;> cases (psX b names).2 <;> rfl
end Go.Proofs.YtnogehmgpfpjmaaGreatDoor
end
section
namespace Go.Proofs.YtnogehmgpfpjmaaGreatDoor
open Go Go.Ab Go.Dk
end Go.Proofs.YtnogehmgpfpjmaaGreatDoor
end
section
namespace Go.Proofs.YtnogehmgpfpjmaaGreatDoor
open Go Go.Ab Go.Dk
abbrev st (s : ByteArray) : V1 := .one (.str s)
abbrev IsNB (r : List V1 × List AObj) : Prop := ∃ v b, r = ([nt v, bl b], [])
theorem num_loop (n : Nat) (s : ByteArray) (hs : s.size ≤ 1000000) (neg : Bool) : ∀ g m (i : Nat) (v : Int), g < m → i + g = s.size → Tot (L_spec_l19Num_0 n m s neg v i) IsNB
 | g, 0, i, v, hg, _ => by omega
 | 0, m + 1, i, v, _, hi => by
  rw [L_spec_l19Num_0_eq]
  repeat' (first | (simp (disch := omega) only [wrap64]; done) | (simp (disch := omega) only [wrap64]) | (with_reducible refine tot_cond (fun hq => ?_) (fun hq => ?_) <;> (try simp (disch := omega) only [wrap64] at hq) <;> (try simp only [decide_eq_true_eq, decide_eq_false_iff_not, Bool.not_eq_true', Bool.not_eq_false', Bool.and_eq_true, Bool.and_eq_false_iff, inB, Bool.not_true, Bool.not_false] at hq) <;> try (exfalso; omega; done)) | ((with_reducible refine tot_some ?_); (exact ⟨_, _, rfl⟩)))
 | g + 1, m + 1, i, v, hg, hi => by
  rw [L_spec_l19Num_0_eq]
  have w : IntKind.i64.wrap ((i : Int) + 1) = ((i + 1 : Nat) : Int) := wrap64 (by omega)
  rw [w]
  repeat' (first | (simp (disch := omega) only [wrap64]; done) | (simp (disch := omega) only [wrap64]) | (with_reducible refine tot_cond (fun hq => ?_) (fun hq => ?_) <;> (try simp (disch := omega) only [wrap64] at hq) <;> (try simp only [decide_eq_true_eq, decide_eq_false_iff_not, Bool.not_eq_true', Bool.not_eq_false', Bool.and_eq_true, Bool.and_eq_false_iff, inB, Bool.not_true, Bool.not_false] at hq) <;> try (exfalso; omega; done)) | ((with_reducible refine tot_some ?_); (exact ⟨_, _, rfl⟩)) | (with_reducible exact num_loop n s hs neg g m (i + 1) _ (by omega) (by omega)))
theorem t_l19Num {n : Nat} {s : ByteArray} (hn : s.size + 3 ≤ n) (hs : s.size ≤ 1000000) : Tot (FF n 115 [st s] []) IsNB := by
 refine tot_step (C := s.size + 2) hn fun n hn _ => ?_
 rw [E_spec_l19Num]
 have hx : (s.extract (1 : Int).toNat (s.size : Int).toNat).size ≤ s.size := by rw [ByteArray.size_extract]; omega
 have h1 : ∀ neg, Tot (L_spec_l19Num_0 n n (s.extract (1 : Int).toNat (s.size : Int).toNat) neg 0 0) IsNB := fun neg => num_loop n (s.extract (1 : Int).toNat (s.size : Int).toNat) (by omega) neg (s.extract (1 : Int).toNat (s.size : Int).toNat).size n 0 0 (by omega) (by omega)
 have h2 : ∀ neg, Tot (L_spec_l19Num_0 n n s neg 0 0) IsNB := fun neg => num_loop n s hs neg s.size n 0 0 (by omega) (by omega)
 repeat' (first | (simp (disch := omega) only [wrap64]; done) | (simp (disch := omega) only [wrap64]) | (with_reducible refine tot_cond (fun hq => ?_) (fun hq => ?_) <;> (try simp (disch := omega) only [wrap64] at hq) <;> (try simp only [decide_eq_true_eq, decide_eq_false_iff_not, Bool.not_eq_true', Bool.not_eq_false', Bool.and_eq_true, Bool.and_eq_false_iff, inB, Bool.not_true, Bool.not_false] at hq) <;> try (exfalso; omega; done)) | ((with_reducible refine tot_some ?_); (exact ⟨_, _, rfl⟩)) | (with_reducible exact h1 _) | (with_reducible exact h2 _))
abbrev IsOff (s : ByteArray) (lo : Int) (r : List V1 × List AObj) : Prop := ∃ v e : Int, r = ([nt v, nt e], []) ∧ -1 ≤ e ∧ e ≤ s.size ∧ (0 ≤ e → lo ≤ e)
theorem numb_loop (n : Nat) (s : ByteArray) (hs : s.size ≤ 1000000) (hn : s.size + 3 ≤ n) (a d : Int) (ha : 0 ≤ a) (hd : 0 ≤ d ∧ d ≤ 10) : ∀ g m (i : Nat), g < m → i + g = s.size → a ≤ i → Tot (L_spec_l1Number_0 n m s a d i) (IsOff s a)
 | g, 0, i, hg, _, _ => by omega
 | g, m + 1, i, hg, hi, hai => by
  have hx : (s.extract a.toNat (i : Int).toNat).size ≤ s.size := by rw [ByteArray.size_extract]; omega
  rw [L_spec_l1Number_0_eq]
  have w : IntKind.i64.wrap ((i : Int) + 1) = ((i + 1 : Nat) : Int) := wrap64 (by omega)
  rw [w]
  cases g with
  | zero =>
   repeat' (first | (simp (disch := omega) only [wrap64]; done) | (simp (disch := omega) only [wrap64]) | (with_reducible refine tot_cond (fun hq => ?_) (fun hq => ?_) <;> (try simp (disch := omega) only [wrap64] at hq) <;> (try simp only [decide_eq_true_eq, decide_eq_false_iff_not, Bool.not_eq_true', Bool.not_eq_false', Bool.and_eq_true, Bool.and_eq_false_iff, inB, Bool.not_true, Bool.not_false] at hq) <;> try (exfalso; omega; done)) | (with_reducible refine tot_call (t_l19Num (by omega) (by omega)) ?_; rintro _ ⟨v, b, rfl⟩; simp only [evt]) | ((with_reducible refine tot_some ?_); (exact ⟨_, _, rfl, by omega, by omega, by omega⟩)))
  | succ g =>
   repeat' (first | (simp (disch := omega) only [wrap64]; done) | (simp (disch := omega) only [wrap64]) | (with_reducible refine tot_cond (fun hq => ?_) (fun hq => ?_) <;> (try simp (disch := omega) only [wrap64] at hq) <;> (try simp only [decide_eq_true_eq, decide_eq_false_iff_not, Bool.not_eq_true', Bool.not_eq_false', Bool.and_eq_true, Bool.and_eq_false_iff, inB, Bool.not_true, Bool.not_false] at hq) <;> try (exfalso; omega; done)) | (with_reducible refine tot_call (t_l19Num (by omega) (by omega)) ?_; rintro _ ⟨v, b, rfl⟩; simp only [evt]) | ((with_reducible refine tot_some ?_); (exact ⟨_, _, rfl, by omega, by omega, by omega⟩)) | (with_reducible exact numb_loop n s hs hn a d ha hd g m (i + 1) (by omega) (by omega) (by omega)))
theorem t_l1Number {n : Nat} {s : ByteArray} {a d : Int} (hn : s.size + 5 ≤ n) (hs : s.size ≤ 1000000) (ha : 0 ≤ a ∧ a ≤ s.size) (hd : 0 ≤ d ∧ d ≤ 10) : Tot (FF n 94 [st s, nt a, nt d] []) (IsOff s a) := by
 refine tot_step (C := s.size + 4) hn fun n hn _ => ?_
 rw [E_spec_l1Number]
 obtain ⟨i, rfl⟩ : ∃ i : Nat, a = i := ⟨a.toNat, by omega⟩
 exact numb_loop n s hs (by omega) i d ha.1 hd (s.size - i) n i (by omega) (by omega) (by omega)
abbrev IsTerm (s : ByteArray) (a : Int) (r : List V1 × List AObj) : Prop := ∃ (t : T) (e : Int), r = ([tm t, nt e], []) ∧ -1 ≤ e ∧ e ≤ s.size ∧ (0 ≤ e → a + t.size ≤ e)
theorem t_leaf {n : Nat} (hn : 1 ≤ n) (k m : Int) : Tot (FF n 56 [nt k, nt m] []) (fun r => r = ([tm (.mk k m [])], [])) := ⟨_, f_l1Leaf hn k m, rfl⟩
theorem t_nodeS {n : Nat} (hn : 1 ≤ n) (k : Int) (l : List T) (hl : l.length ≤ 100) : Tot (FF n 53 [nt k, tms l] []) (fun r => r = ([tm (.mk k 0 l)], [])) := ⟨_, f_l1Node hn k l (by omega), rfl⟩
theorem t_kids {n : Nat} (hn : 1 ≤ n) (k : Int) : Tot (FF n 100 [nt k] []) (fun r => r = ([nt (opsOf k)], [])) := ⟨_, f_l1Kids hn k, rfl⟩
section
variable {s : ByteArray} (hs : s.size ≤ 1000000) {d N : Nat} (hd : d ≤ 30) (ih : ∀ n, N ≤ n → ∀ a : Int, 0 ≤ a → a ≤ s.size + 1 → Tot (FF n 52 [st s, nt a, nt (d : Int)] []) (IsTerm s a))
include hs hd ih
theorem t_l1Prefix {n : Nat} (hn : N + 2 ≤ n) {a : Int} (ha : 0 ≤ a ∧ a < s.size) : Tot (FF n 95 [st s, nt a, nt ((d : Int) + 1)] []) (IsTerm s a) := by
 refine tot_step (C := N + 1) hn fun n hn _ => ?_
 rw [E_spec_l1Prefix]
 have w : IntKind.i64.wrap ((d : Int) + 1 - 1) = (d : Int) := by rw [wrap64 (by omega)]; omega
 rw [w]
 repeat' (first | (simp (disch := omega) only [wrap64]; done) | (simp (disch := omega) only [wrap64]) | (with_reducible refine tot_cond (fun hq => ?_) (fun hq => ?_) <;> (try simp (disch := omega) only [wrap64] at hq) <;> (try simp only [decide_eq_true_eq, decide_eq_false_iff_not, Bool.not_eq_true', Bool.not_eq_false', Bool.and_eq_true, Bool.and_eq_false_iff, inB, Bool.not_true, Bool.not_false] at hq) <;> try (exfalso; omega; done)) | (with_reducible refine tot_call (ih n (by omega) _ (by omega) (by omega)) ?_; rintro _ ⟨t, e, rfl, h1, h2, h3⟩; simp only [evt]) | (with_reducible refine tot_call (t_nodeS (by omega) _ _ (by simp)) ?_; rintro _ rfl; simp only [evt]) | ((with_reducible refine tot_some ?_); (exact ⟨.mk _ _ _, _, rfl, by omega, by omega, fun h => by have := h3 h; simp only [T.size, T.sizeL]; omega⟩)))
theorem t_l1Round {n : Nat} (hn : N + 2 ≤ n) {a : Int} (ha : 0 ≤ a ∧ a ≤ s.size) : Tot (FF n 96 [st s, nt a, nt (d : Int)] []) (fun r => ∃ (t : T) (e : Int), r = ([tm t, nt e], []) ∧ -1 ≤ e ∧ e ≤ s.size ∧ (0 ≤ e → a + t.size ≤ e + 1)) := by
 have hs' := hs
 have hd' := hd
 refine tot_step (C := N + 1) hn fun n hn _ => ?_
 rw [E_spec_l1Round]
 refine tot_call (ih n (by omega) a (by omega) (by omega)) ?_
 rintro _ ⟨t, e, rfl, h1, h2, h3⟩
 simp only [evt]
 repeat' (first | (simp (disch := omega) only [wrap64]; done) | (simp (disch := omega) only [wrap64]) | (with_reducible refine tot_cond (fun hq => ?_) (fun hq => ?_) <;> (try simp (disch := omega) only [wrap64] at hq) <;> (try simp only [decide_eq_true_eq, decide_eq_false_iff_not, Bool.not_eq_true', Bool.not_eq_false', Bool.and_eq_true, Bool.and_eq_false_iff, inB, Bool.not_true, Bool.not_false] at hq) <;> try (exfalso; omega; done)) | (with_reducible refine tot_call (ih n (by omega) _ (by omega) (by omega)) ?_; rintro _ ⟨u, e', rfl, h4, h5, h6⟩; simp only [evt]) | (with_reducible refine tot_call (t_nodeS (by omega) _ _ (by simp)) ?_; rintro _ rfl; simp only [evt]) | ((with_reducible refine tot_some ?_); (exact ⟨.mk _ _ _, _, rfl, by omega, by omega, by omega⟩)) | ((with_reducible refine tot_some ?_); (exact ⟨.mk _ _ _, _, rfl, by omega, by omega, fun h => by have := h3 (by omega); have := h6 (by omega); simp only [T.size, T.sizeL]; omega⟩)))
theorem series_loop (n : Nat) (hn : N + 1 ≤ n) (last : Int) (many : Nat) (hmany : many ≤ 4) (a0 : Int) (ha0 : 0 ≤ a0) : ∀ g m (i : Nat) (a : Int) (acc : List T), g < m → i + g = many → 0 ≤ a → a ≤ s.size → acc.length = i → a0 + T.sizeL acc ≤ a →
   Tot (L_spec_l1Series_0 n m s a d many last i acc) (fun r => ∃ (l : List T) (e : Int), r = ([tms l, nt e], []) ∧ -1 ≤ e ∧ e ≤ s.size ∧ (0 ≤ e → a0 + T.sizeL l ≤ e))
 | g, 0, i, a, acc, hg, _, _, _, _, _ => by
  have hs' := hs
  have hd' := hd
  omega
 | 0, m + 1, i, a, acc, _, hi, h0, h1, hl, hz => by
  rw [L_spec_l1Series_0_eq]
  rw [decide_eq_false (show ¬ (i : Int) < many by omega)]
  exact tot_some ⟨_, _, rfl, by omega, by omega, by omega⟩
 | g + 1, m + 1, i, a, acc, hg, hi, h0, h1, hl, hz => by
  have w : IntKind.i64.wrap ((i : Int) + 1) = ((i + 1 : Nat) : Int) := wrap64 (by omega)
  rw [L_spec_l1Series_0_eq, w]
  rw [decide_eq_true (show (i : Int) < many by omega), cond_true]
  refine tot_call (ih n (by omega) a (by omega) (by omega)) ?_
  rintro _ ⟨t, e, rfl, k1, k2, k3⟩
  simp only [evt, List.length_append, List.length_cons, List.length_nil, hl]
  have hroom : roomB (i + (0 + 1)) = true := roomB_ok (by omega)
  have hsz : T.sizeL (acc ++ [t]) = T.sizeL acc + t.size := by
   clear hl hz
   induction acc with
   | nil => simp [T.sizeL]
   | cons x acc ih2 => simp only [List.cons_append, T.sizeL, ih2]; omega
  rw [hroom]
  simp only [cond_true]
  have nx : 0 ≤ e → e < s.size → Tot (L_spec_l1Series_0 n m s (e + 1) d many last ((i + 1 : Nat) : Int) (acc ++ [t])) (fun r => ∃ (l : List T) (e : Int), r = ([tms l, nt e], []) ∧ -1 ≤ e ∧ e ≤ s.size ∧ (0 ≤ e → a0 + T.sizeL l ≤ e)) := fun h h' =>
   series_loop n hn last many hmany a0 ha0 g m (i + 1) (e + 1) (acc ++ [t]) (by omega) (by omega) (by omega) (by omega) (by simp [hl]) (by have := k3 h; rw [hsz]; omega)
  repeat' (first | (simp (disch := omega) only [wrap64]; done) | (simp (disch := omega) only [wrap64]) | (with_reducible refine tot_cond (fun hq => ?_) (fun hq => ?_) <;> (try simp (disch := omega) only [wrap64] at hq) <;> (try simp only [decide_eq_true_eq, decide_eq_false_iff_not, Bool.not_eq_true', Bool.not_eq_false', Bool.and_eq_true, Bool.and_eq_false_iff, inB, Bool.not_true, Bool.not_false] at hq) <;> try (exfalso; omega; done)) | ((with_reducible refine tot_some ?_); (exact ⟨[], _, rfl, by omega, by omega, by omega⟩)) | (with_reducible exact nx (by omega) (by omega)))
theorem t_l1Series {n : Nat} (hn : N + 7 ≤ n) {a : Int} (ha : 0 ≤ a ∧ a ≤ s.size) (many : Int) (hm : 0 ≤ many ∧ many ≤ 4) (last : Int) : Tot (FF n 116 [st s, nt a, nt (d : Int), nt many, .one (.int .u8 last)] []) (fun r => ∃ (l : List T) (e : Int), r = ([tms l, nt e], []) ∧ -1 ≤ e ∧ e ≤ s.size ∧ (0 ≤ e → a + T.sizeL l ≤ e)) := by
 refine tot_step (C := N + 6) hn fun n hn _ => ?_
 rw [E_spec_l1Series]
 obtain ⟨k, rfl⟩ : ∃ k : Nat, many = k := ⟨many.toNat, by omega⟩
 exact series_loop hs hd ih n (by omega) last k (by omega) a ha.1 k n 0 a [] (by omega) (by omega) ha.1 ha.2 rfl (by simp [T.sizeL])
theorem t_l1Block {n : Nat} (hn : N + 8 ≤ n) {a : Int} (ha : 0 ≤ a ∧ a < s.size) : Tot (FF n 97 [st s, nt a, nt ((d : Int) + 1)] []) (IsTerm s a) := by
 refine tot_step (C := N + 7) hn fun n hn _ => ?_
 rw [E_spec_l1Block]
 have w : IntKind.i64.wrap ((d : Int) + 1 - 1) = (d : Int) := by rw [wrap64 (by omega)]; omega
 rw [w]
 have k9 : opsOf 9 = 4 := rfl
 have k10 : opsOf 10 = 3 := rfl
 have k14 : opsOf 14 = 3 := rfl
 have k12 : opsOf 12 = 3 := rfl
 repeat' (first | (simp (disch := omega) only [wrap64]; done) | (simp (disch := omega) only [wrap64]) | (with_reducible refine tot_cond (fun hq => ?_) (fun hq => ?_) <;> (try simp (disch := omega) only [wrap64] at hq) <;> (try simp only [decide_eq_true_eq, decide_eq_false_iff_not, Bool.not_eq_true', Bool.not_eq_false', Bool.and_eq_true, Bool.and_eq_false_iff, inB, Bool.not_true, Bool.not_false] at hq) <;> try (exfalso; omega; done)) | (with_reducible refine tot_call (t_kids (by omega) _) ?_; rintro _ rfl; simp only [evt]) | (with_reducible refine tot_call (t_l1Series hs hd ih (by omega) ⟨by omega, by omega⟩ _ (by rw [k9]; omega) _) ?_; rintro _ ⟨l, e, rfl, h1, h2, h3⟩; simp only [evt]) | (with_reducible refine tot_call (t_l1Series hs hd ih (by omega) ⟨by omega, by omega⟩ _ (by rw [k10]; omega) _) ?_; rintro _ ⟨l, e, rfl, h1, h2, h3⟩; simp only [evt]) | (with_reducible refine tot_call (t_l1Series hs hd ih (by omega) ⟨by omega, by omega⟩ _ (by rw [k14]; omega) _) ?_; rintro _ ⟨l, e, rfl, h1, h2, h3⟩; simp only [evt]) | (with_reducible refine tot_call (t_l1Series hs hd ih (by omega) ⟨by omega, by omega⟩ _ (by rw [k12]; omega) _) ?_; rintro _ ⟨l, e, rfl, h1, h2, h3⟩; simp only [evt]) | ((with_reducible refine tot_some ?_); (exact ⟨.mk _ _ _, _, rfl, by omega, by omega, by omega⟩)) | ((with_reducible refine tot_some ?_); (exact ⟨.mk _ _ _, _, rfl, by omega, by omega, fun h => by have := h3 h; simp only [T.size]; omega⟩)))
end
theorem t_l1Parse {s : ByteArray} (hs : s.size ≤ 1000000) : ∀ (d : Nat), d ≤ 30 → ∀ n, s.size + 20 + 12 * d ≤ n → ∀ a : Int, 0 ≤ a → a ≤ s.size + 1 → Tot (FF n 52 [st s, nt a, nt (d : Int)] []) (IsTerm s a)
 | 0, hd, n, hn, a, h0, h1 => by
  refine tot_step (C := s.size + 19) (by omega) fun n hn _ => ?_
  rw [E_spec_l1Parse]
  repeat' (first | (simp (disch := omega) only [wrap64]; done) | (simp (disch := omega) only [wrap64]) | (with_reducible refine tot_cond (fun hq => ?_) (fun hq => ?_) <;> (try simp (disch := omega) only [wrap64] at hq) <;> (try simp only [decide_eq_true_eq, decide_eq_false_iff_not, Bool.not_eq_true', Bool.not_eq_false', Bool.and_eq_true, Bool.and_eq_false_iff, inB, Bool.not_true, Bool.not_false] at hq) <;> try (exfalso; omega; done)) | ((with_reducible refine tot_some ?_); (exact ⟨.mk _ _ _, _, rfl, by omega, by omega, by omega⟩)))
 | d + 1, hd, n, hn, a, h0, h1 => by
  have ih := fun n hn => t_l1Parse hs d (by omega) n hn
  refine tot_step (C := s.size + 19 + 12 * (d + 1)) (by omega) fun n hn _ => ?_
  rw [E_spec_l1Parse]
  have w : IntKind.i64.wrap (((d + 1 : Nat) : Int) - 1) = (d : Int) := by rw [wrap64 (by omega)]; omega
  have w2 : (((d + 1 : Nat) : Int)) = (d : Int) + 1 := rfl
  rw [w, w2]
  repeat' (first | (simp (disch := omega) only [wrap64]; done) | (simp (disch := omega) only [wrap64]) | (with_reducible refine tot_cond (fun hq => ?_) (fun hq => ?_) <;> (try simp (disch := omega) only [wrap64] at hq) <;> (try simp only [decide_eq_true_eq, decide_eq_false_iff_not, Bool.not_eq_true', Bool.not_eq_false', Bool.and_eq_true, Bool.and_eq_false_iff, inB, Bool.not_true, Bool.not_false] at hq) <;> try (exfalso; omega; done)) | (with_reducible refine tot_call (t_l1Number (by omega) hs ⟨by omega, by omega⟩ ⟨by omega, by omega⟩) ?_; rintro _ ⟨v, e, rfl, k1, k2, k3⟩; simp only [evt]) | (with_reducible refine tot_call (t_leaf (by omega) _ _) ?_; rintro _ rfl; simp only [evt]) | (with_reducible refine tot_call (t_l1Prefix hs (by omega) ih (by omega) ⟨by omega, by omega⟩) ?_; rintro _ ⟨t, e, rfl, k1, k2, k3⟩; simp only [evt]) | (with_reducible refine tot_call (t_l1Round hs (by omega) ih (by omega) ⟨by omega, by omega⟩) ?_; rintro _ ⟨t, e, rfl, k1, k2, k3⟩; simp only [evt]) | (with_reducible refine tot_call (t_l1Block hs (by omega) ih (by omega) ⟨by omega, by omega⟩) ?_; rintro _ ⟨t, e, rfl, k1, k2, k3⟩; simp only [evt]) | (with_reducible refine tot_call (ih n (by omega) _ (by omega) (by omega)) ?_; rintro _ ⟨u, e', rfl, k4, k5, k6⟩; simp only [evt]) | (with_reducible refine tot_call (t_nodeS (by omega) _ _ (by simp)) ?_; rintro _ rfl; simp only [evt]) | ((with_reducible refine tot_some ?_); (exact ⟨.mk _ _ _, _, rfl, by omega, by omega, by omega⟩)) | ((with_reducible refine tot_some ?_); (exact ⟨.mk _ _ _, _, rfl, by omega, by omega, fun h => by simp only [T.size, T.sizeL]; omega⟩)) | ((with_reducible refine tot_some ?_); (exact ⟨t, _, rfl, by omega, by omega, fun h => by have := k3 h; omega⟩)) | ((with_reducible refine tot_some ?_); (exact ⟨.mk _ _ _, _, rfl, by omega, by omega, fun h => by have := k3 h; simp only [T.size, T.sizeL]; omega⟩)) | ((with_reducible refine tot_some ?_); (exact ⟨.mk _ _ _, _, rfl, by omega, by omega, fun h => by have := k3 (by omega); have := k6 h; simp only [T.size, T.sizeL]; omega⟩)))
abbrev IsStr (m : Nat) (r : List V1 × List AObj) : Prop := ∃ s : ByteArray, r = ([st s], []) ∧ s.size ≤ m
theorem dec_byte (v : Int) (h : 0 ≤ v ∧ v ≤ 9) : IntKind.u8.wrap (IntKind.i64.wrap (48 + v)) = 48 + v := by
 rw [wrap64 (by omega)]
 rw [IntKind.wrap]; simp [IntKind.signed, IntKind.bits]; omega
theorem t_l19Dec {n : Nat} (hn : 5 ≤ n) {v : Int} (hv : 0 ≤ v ∧ v ≤ 99) : Tot (FF n 113 [nt v] []) (IsStr 2) := by
 refine tot_step (C := 4) hn fun n hn _ => ?_
 rw [E_spec_l19Dec]
 rw [decide_eq_false (show ¬ v < -9223372036854775807 by omega), decide_eq_false (show ¬ v < 0 by omega)]
 simp only [cond_false]
 have fin : ∀ (m : Nat) (v : Int) (x : ByteArray), 0 ≤ v ∧ v ≤ 9 → x.size ≤ 1 → Tot (L_spec_l19Dec_0 n (m + 1) v x) (IsStr 2) := by
  intro m v x hv hx
  rw [L_spec_l19Dec_0_eq, dec_byte v hv, decide_eq_false (show ¬ 9 < v by omega), decide_eq_true (show 0 ≤ 48 + v by omega), decide_eq_true (show 48 + v ≤ 255 by omega)]
  simp only [Bool.and_self, cond_true, cond_false]
  refine tot_cond (fun _ => tot_some ?_) (fun hq => ?_)
  ·exact ⟨_, rfl, by rw [ByteArray.size_append]; show 1 + x.size ≤ 2; omega⟩
  ·have hq' := of_decide_eq_false hq
   exact absurd (show 1 + x.size ≤ 9223372036854775807 by omega) hq'
 obtain ⟨m, rfl⟩ : ∃ m, n = m + 2 := ⟨n - 2, by omega⟩
 by_cases h9 : 9 < v
 ·have hm := tmod_bd (show 0 ≤ v by omega) (show (0 : Int) < 10 by omega)
  have hd := tdiv_bd (show 0 ≤ v by omega) (show (0 : Int) < 10 by omega)
  have hd2 : v.tdiv 10 ≤ 9 := by rw [Int.tdiv_eq_ediv_of_nonneg (by omega)]; omega
  rw [L_spec_l19Dec_0_eq, dec_byte _ (by omega), decide_eq_true h9, decide_eq_true (show 0 ≤ 48 + v.tmod 10 by omega), decide_eq_true (show 48 + v.tmod 10 ≤ 255 by omega), wrap64 (by omega)]
  simp only [Bool.and_self, cond_true]
  refine tot_cond (fun _ => ?_) (fun hq => ?_)
  ·exact fin m _ _ ⟨hd.1, hd2⟩ (by rw [ByteArray.size_append]; exact Nat.le_refl 1)
  ·have hq' := of_decide_eq_false hq
   exact absurd (show 1 + 0 ≤ 9223372036854775807 by omega) hq'
 ·exact fin (m + 1) v _ ⟨hv.1, by omega⟩ (by decide)
theorem size_bytes (l : List UInt8) : (bytesOf l).size = l.length := by simp [bytesOf, ByteArray.size]
theorem list_loop (n : Nat) (ts : List T) (hl : ts.length ≤ 1000) (hsz : T.sizeL ts ≤ 1000) (h : ∀ u ∈ ts, Tot (FF n 93 [tm u] []) (IsStr (8 * u.size - 1))) :
   ∀ g m (i : Nat) (x : ByteArray), g < m → i + g = ts.length → x.size + 8 * T.sizeL (ts.drop i) ≤ 8 * T.sizeL ts → Tot (L_spec_l1List_0 n m ts x i) (IsStr (8 * T.sizeL ts))
 | g, 0, i, x, hg, _, _ => by omega
 | 0, m + 1, i, x, _, hi, hx => by
  rw [L_spec_l1List_0_eq, decide_eq_false (show ¬ (i : Int) < ts.length by omega)]
  refine tot_some ?_
  exact ⟨_, rfl, by omega⟩
 | g + 1, m + 1, i, x, hg, hi, hx => by
  have hlt : i < ts.length := by omega
  have hm := List.getElem_mem hlt
  rw [List.drop_eq_getElem_cons hlt, T.sizeL] at hx
  have w : IntKind.i64.wrap ((i : Int) + 1) = ((i + 1 : Nat) : Int) := wrap64 (by omega)
  have hp := size_pos ts[i]
  rw [L_spec_l1List_0_eq, w]
  simp only [Int.toNat_natCast, List.getElem?_eq_getElem hlt, Option.bind_some, ByteArray.size_append, size_bytes, List.length_cons, List.length_nil]
  have nx : ∀ y : ByteArray, y.size ≤ x.size + 8 * ts[i].size → Tot (L_spec_l1List_0 n m ts y ((i + 1 : Nat) : Int)) (IsStr (8 * T.sizeL ts)) := fun y hy => list_loop n ts hl hsz h g m (i + 1) y (by omega) (by omega) (by omega)
  repeat' (first | (simp (disch := omega) only [wrap64]; done) | (simp (disch := omega) only [wrap64]) | (with_reducible refine tot_cond (fun hq => ?_) (fun hq => ?_) <;> (try simp (disch := omega) only [wrap64] at hq) <;> (try simp only [decide_eq_true_eq, decide_eq_false_iff_not, Bool.not_eq_true', Bool.not_eq_false', Bool.and_eq_true, Bool.and_eq_false_iff, inB, Bool.not_true, Bool.not_false] at hq) <;> try (exfalso; omega; done)) | (with_reducible refine tot_call (h _ hm) ?_; rintro _ ⟨s, rfl, hs⟩; simp only [evt]) | (with_reducible exact nx _ (by simp only [ByteArray.size_append, size_bytes, List.length_cons, List.length_nil]; omega)))
theorem tot_kid {t : T} {i : Nat} {k : T → OR} {Q : List V1 × List AObj → Prop} (h : i < t.kids.length) (hk : Tot (k (kd t i)) Q) : Tot (t.kids[i]?.bind k) Q := by
 rw [kid_get h]; exact hk
theorem t_l1Text (t : T) : ∀ {n : Nat}, 2 * t.size + 10 ≤ n → validB t = true → Tot (FF n 93 [tm t] []) (IsStr (8 * t.size - 1)) := by
 induction t using T.ind with | h t ih =>
 intro n hn hv
 have hsz := T.size_eq t
 have hz := validB_size hv
 have hl := T.sizeL_len t.kids
 have ho := validB_ops hv
 refine tot_step (C := 2 * t.size + 9) hn fun n hn _ => ?_
 have hk : ∀ i, i < t.kids.length → Tot (FF n 93 [tm (kd t i)] []) (IsStr (8 * (kd t i).size - 1)) := fun i hi => ih _ (kd_mem hi) (by have := T.sizeL_mem (kd_mem hi); omega) (validB_kid hv (kd_mem hi))
 have hkz : ∀ i, i < t.kids.length → (kd t i).size ≤ T.sizeL t.kids := fun i hi => T.sizeL_mem (kd_mem hi)
 have hlist : Tot (FF n 114 [tms t.kids] []) (IsStr (8 * T.sizeL t.kids)) := by
  refine tot_step (C := 2 * t.size + 8) (by omega) fun n hn e => ?_
  subst e
  rw [E_spec_l1List]
  exact list_loop n t.kids (by omega) (by omega) (fun u hu => ih u hu (by have := T.sizeL_mem hu; omega) (validB_kid hv hu)) t.kids.length n 0 _ (by omega) (by omega) (by simp [size_bytes])
 rw [E_spec_l1Text]
 simp only [Int.toNat_zero, Int.reduceToNat, Int.toNat_one]
 have l8 : t.k = 8 → t.kids.length = 1 := fun h => ops_len hv (c := 1) (by rw [h]; rfl)
 have l11 : t.k = 11 → t.kids.length = 1 := fun h => ops_len hv (c := 1) (by rw [h]; rfl)
 have l15 : t.k = 15 → t.kids.length = 1 := fun h => ops_len hv (c := 1) (by rw [h]; rfl)
 have l16 : t.k = 16 → t.kids.length = 1 := fun h => ops_len hv (c := 1) (by rw [h]; rfl)
 have l3 : t.k = 3 → t.kids.length = 2 := fun h => ops_len hv (c := 2) (by rw [h]; rfl)
 have l13 : t.k = 13 → t.kids.length = 2 := fun h => ops_len hv (c := 2) (by rw [h]; rfl)
 have l5 : t.k = 5 → t.kids.length = 2 := fun h => ops_len hv (c := 2) (by rw [h]; rfl)
 have l4 : t.k = 4 → t.kids.length = 2 := fun h => ops_len hv (c := 2) (by rw [h]; rfl)
 have h01 : t.kids.length = 2 → (kd t 0).size + (kd t 1).size ≤ T.sizeL t.kids := by
  intro h2
  cases t with | mk k n' ts =>
  match ts, h2 with
  | [x, y], _ => simp [kd, T.kids, T.sizeL]
 have h0 := hkz 0
 have z0 := size_pos (kd t 0)
 have z1 := size_pos (kd t 1)
 have hn20 : 0 ≤ t.n ∧ t.n ≤ 20 := ⟨(gd_out (gd_valid hv)).1, (gd_out (gd_valid hv)).2.1⟩
 simp only [ByteArray.size_append, size_bytes, List.length_cons, List.length_nil]
 repeat' (first | (simp (disch := omega) only [wrap64]; done) | (simp (disch := omega) only [wrap64]) | (with_reducible refine tot_cond (fun hq => ?_) (fun hq => ?_) <;> (try simp (disch := omega) only [wrap64] at hq) <;> (try simp only [decide_eq_true_eq, decide_eq_false_iff_not, Bool.not_eq_true', Bool.not_eq_false', Bool.and_eq_true, Bool.and_eq_false_iff, inB, Bool.not_true, Bool.not_false] at hq) <;> try (exfalso; omega; done)) | (with_reducible refine tot_call (t_l19Dec (by omega) (by omega)) ?_; rintro _ ⟨s, rfl, hs⟩; simp only [evt]) | (with_reducible refine tot_call (hlist) ?_; rintro _ ⟨s, rfl, hs⟩; simp only [evt]) | ((with_reducible refine tot_kid (t := t) (by omega) ?_)) | (with_reducible refine tot_call (hk 0 (by omega)) ?_; rintro _ ⟨s, rfl, hs⟩; simp only [evt]) | (with_reducible refine tot_call (hk 1 (by omega)) ?_; rintro _ ⟨s', rfl, hs'⟩; simp only [evt]) | ((with_reducible refine tot_some ?_); (exact ⟨_, rfl, by simp only [ByteArray.size_append, size_bytes, List.length_cons, List.length_nil]; omega⟩)))
theorem t_FormatTerm {n : Nat} {t : T} (hn : 3 * t.size + 2000 ≤ n) (hz : t.size ≤ 1000000) : Tot (FF n 109 [tm t] []) (fun r => ∃ s : ByteArray, r = ([st s], []) ∧ (validB t = false → s.size = 0)) := by
 refine tot_step (C := 3 * t.size + 1999) hn fun n hn _ => ?_
 rw [E_spec_FormatTerm, f_TermValidS (by omega) (by omega)]
 simp only [evt]
 cases hv : validB t with
 | false => exact ⟨_, rfl, _, rfl, fun _ => rfl⟩
 | true =>
  simp only [Bool.not_true, cond_false]
  refine tot_call (t_l1Text t (by omega) hv) ?_
  rintro _ ⟨s, rfl, _⟩
  exact ⟨_, rfl, _, rfl, fun h => by cases h⟩
theorem t_ParseTerm {n : Nat} {s : ByteArray} (hn : 5 * s.size + 5000 ≤ n) (hs : s.size ≤ 100000) : Tot (FF n 74 [st s] []) (fun r => ∃ t b, r = ([tm t, bl b], []) ∧ (b = true → validB t = true) ∧ (b = false → t = .mk 0 0 [])) := by
 refine tot_step (C := 5 * s.size + 4999) hn fun n hn _ => ?_
 rw [E_spec_ParseTerm]
 refine tot_call (t_l1Parse (s := s) (by omega) 30 (by omega) n (by omega) 0 (by omega) (by omega)) ?_
 rintro _ ⟨t, e, rfl, h1, h2, h3⟩
 simp only [evt]
 refine tot_cond (fun hq => ⟨_, rfl, .mk 0 0 [], false, rfl, by simp, fun _ => rfl⟩) (fun hne => ?_)
 refine tot_cond (fun hq => ⟨_, rfl, .mk 0 0 [], false, rfl, by simp, fun _ => rfl⟩) (fun hq => ?_)
 have hq' : e = s.size := by simpa using hq
 have h4 := h3 (by omega)
 refine tot_call (t_FormatTerm (t := t) (by omega) (by omega)) ?_
 rintro _ ⟨x, rfl, hx⟩
 simp only [evt]
 refine tot_cond (fun hq => ⟨_, rfl, .mk 0 0 [], false, rfl, by simp, fun _ => rfl⟩) (fun hq2 => ⟨_, rfl, t, true, rfl, fun _ => ?_, by simp⟩)
 cases hv : validB t with
 | true => rfl
 | false =>
  exfalso
  have hx0 := hx hv
  have hxs : x.toList = s.toList := by simpa using hq2
  have hx1 : x.data = #[] := by
   apply Array.eq_empty_of_size_eq_zero
   exact hx0
  have hxe : x = ByteArray.mk #[] := by cases x; simp at hx1; rw [hx1]
  rw [hxe] at hxs
  rw [← hxs, show bytesOf [] = ByteArray.mk #[] from rfl] at hne
  simp at hne
end Go.Proofs.YtnogehmgpfpjmaaGreatDoor
end
section
namespace Go.Proofs.YtnogehmgpfpjmaaGreatDoor
open Go Go.Ab Go.Dk
theorem t_pick {n : Nat} (hn : 1 ≤ n) {l : List UInt8} {p m k : Int} (h : RdOk l p m) (hm : m ≤ 1000000000000) (hk : k ≤ 2147483648) :
   Tot (FF n 42 [.one (.ptr 0 0), nt k] [rdr l p]) (fun r => ∃ v p' : Int, r = ([nt v], [rdr l p']) ∧ 0 ≤ v ∧ (0 < k → v < k) ∧ RdOk l p' (m + 1)) := by
 obtain ⟨v, ⟨h1, h2, _⟩, h3, h4⟩ := s_pick h (by omega) hk
 exact ⟨_, h4 n hn, v, _, rfl, h1, h2, h3⟩
theorem t_num {n : Nat} (hn : 2 ≤ n) {l : List UInt8} {p m : Int} {ss : List Int} (h : RdOk l p m) (hm : m ≤ 1000000000000) (hs : ss ≠ []) (hl : ss.length ≤ 1000) :
   Tot (FF n 84 [.one (.ptr 0 0), .one (.fr (.is ss))] [rdr l p]) (fun r => ∃ v p' : Int, r = ([nt v], [rdr l p']) ∧ v ∈ ss ∧ RdOk l p' (m + 1)) := by
 obtain ⟨v, h1, h3, h4⟩ := s_num h (by omega) hs (by omega)
 exact ⟨_, h4 n hn, v, _, rfl, h1, h3⟩
theorem t_of {n : Nat} (hn : 2 ≤ n) {l : List UInt8} {p m : Int} {ss : List ByteArray} (h : RdOk l p m) (hm : m ≤ 1000000000000) (hs : ss ≠ []) (hl : ss.length ≤ 1000) :
   Tot (FF n 35 [.one (.ptr 0 0), .one (.fr (.ss ss))] [rdr l p]) (fun r => ∃ s, ∃ p' : Int, r = ([st s], [rdr l p']) ∧ s ∈ ss ∧ RdOk l p' (m + 1)) := by
 obtain ⟨v, h1, h3, h4⟩ := s_of h (by omega) hs (by omega)
 exact ⟨_, h4 n hn, v, _, rfl, h1, h3⟩
theorem t_open {n : Nat} (hn : 1 ≤ n) (l : List UInt8) : Tot (FF n 33 [.one (.fr (.bs l))] []) (fun r => ∃ l', r = ([.one (.ptr 0 0)], [rdr l' 0]) ∧ RdOk l' 0 0) := by
 obtain ⟨l', h1, h2⟩ := s_open l
 exact ⟨_, h2 n hn, l', rfl, h1⟩
abbrev IsDraw (z : Nat) (l : List UInt8) (m : Int) (r : List V1 × List AObj) : Prop := ∃ (t : T) (p : Int), r = ([tm t], [rdr l p]) ∧ t.size ≤ z ∧ RdOk l p m
theorem draw_loop (Q : Int) (hQ : Q ≤ 900000000000) (n : Nat) (hn : 1 ≤ n) (l : List UInt8) (d kind : Int) (K : Nat) (M : Int)
   (ih : ∀ p m, RdOk l p m → m ≤ Q → Tot (FF n 110 [.one (.ptr 0 0), nt (d - 1)] [rdr l p]) (IsDraw K l (m + M))) (hM : 0 ≤ M ∧ M ≤ 1000000000) (hd : -100 ≤ d ∧ d ≤ 100) (hK : K ≤ 4000000) (z1 z2 : Int) (l0 : List T) (k1 n1 : Int) :
   ∀ (g c i : Nat) (p m : Int) (acc : List T), g < c → (opsOf kind = i + g ∨ (g = 0 ∧ opsOf kind ≤ i)) → i ≤ 4 → g ≤ 4 → RdOk l p m → m + g * M ≤ Q → acc.length = i →
    Tot (L_spec_l1Draw_0_foo n c d kind i l p z1 z2 l0 k1 n1 acc) (IsDraw (1 + T.sizeL acc + g * K) l (m + g * M))
 | g, 0, i, p, m, acc, hg, _, _, _, _, _, _ => by omega
 | 0, c + 1, i, p, m, acc, _, hi, _, _, hr, _, hl => by
  rw [L_spec_l1Draw_0_foo_eq, f_l1Kids hn]
  simp only [evt]
  rw [decide_eq_false (show ¬ (i : Int) < opsOf kind by omega)]
  refine tot_some ?_
  exact ⟨.mk k1 n1 acc, p, rfl, by simp [T.size], by simpa using hr⟩
 | g + 1, c + 1, i, p, m, acc, hg, hi, hi4, hg4, hr, hm, hl => by
  rw [L_spec_l1Draw_0_foo_eq, f_l1Kids hn]
  simp only [evt]
  have hgM : (((g + 1 : Nat)) : Int) * M = g * M + M := by rw [Int.natCast_add, Int.add_mul]; simp
  have hgK : (g + 1) * K = g * K + K := by rw [Nat.add_mul, Nat.one_mul]
  have ho := ops_le kind
  have hg0 : 0 ≤ (g : Int) * M := Int.mul_nonneg (by omega) hM.1
  rw [decide_eq_true (show (i : Int) < opsOf kind by omega), cond_true, wrap64 (show -9223372036854775808 ≤ d - 1 ∧ d - 1 ≤ 9223372036854775807 by omega)]
  refine tot_call (ih p m hr (by rw [hgM] at hm; omega)) ?_
  rintro _ ⟨t, p', rfl, ht, hr'⟩
  have w : IntKind.i64.wrap ((i : Int) + 1) = ((i + 1 : Nat) : Int) := wrap64 (by omega)
  simp only [evt, w, List.length_append, List.length_cons, List.length_nil, hl]
  rw [roomB_ok (by omega), cond_true]
  have hsz : T.sizeL (acc ++ [t]) = T.sizeL acc + t.size := by
   clear hl
   induction acc with
   | nil => simp [T.sizeL]
   | cons x acc ih2 => simp only [List.cons_append, T.sizeL, ih2]; omega
  have := draw_loop Q hQ n hn l d kind K M ih hM hd hK z1 z2 l0 k1 n1 g c (i + 1) p' (m + M) (acc ++ [t]) (by omega) (by omega) (by omega) (by omega) hr' (by rw [hgM] at hm; omega) (by simp [hl])
  refine tot_mono this ?_
  rintro _ ⟨u, q, rfl, hu, hq⟩
  exact ⟨u, q, rfl, by rw [hsz] at hu; omega, hq.mono (by rw [hgM]; omega)⟩
theorem t_l1Draw_step (Q : Int) (hQ : Q ≤ 900000000000) {n : Nat} (hn : 10 ≤ n) (l : List UInt8) (d : Int) (K : Nat) (M : Int) (hM : 0 ≤ M ∧ M ≤ 1000000000) (hd : -100 ≤ d ∧ d ≤ 100) (hK : K ≤ 4000000) (hK1 : 1 ≤ K)
   (ih : ∀ m, n ≤ m + 1 → ∀ p q, RdOk l p q → q ≤ Q → Tot (FF m 110 [.one (.ptr 0 0), nt (d - 1)] [rdr l p]) (IsDraw K l (q + M))) {p m : Int} (hr : RdOk l p m) (hm : m + 3 + 4 * M ≤ Q) :
   Tot (FF n 110 [.one (.ptr 0 0), nt d] [rdr l p]) (IsDraw (1 + 4 * K) l (m + 3 + 4 * M)) := by
 refine tot_step (C := 9) (by omega) fun n hn e => ?_
 have fin : ∀ (kind k1 n1 q m' : Int), opsOf kind ≠ -1 → RdOk l q m' → m' ≤ m + 3 → Tot (L_spec_l1Draw_0_foo n n d kind 0 l q 0 0 [] k1 n1 []) (IsDraw (1 + 4 * K) l (m + 3 + 4 * M)) := by
  intro kind k1 n1 q m' hk hq hm'
  have h0 : 0 ≤ opsOf kind := by
   unfold opsOf at hk ⊢; repeat' split
   all_goals first | omega | (exfalso; simp_all)
  have h4 := ops_le kind
  obtain ⟨g, hg⟩ : ∃ g : Nat, opsOf kind = g := ⟨(opsOf kind).toNat, by omega⟩
  have hgM : (g : Int) * M ≤ 4 * M := Int.mul_le_mul_of_nonneg_right (by omega) hM.1
  have hgK : g * K ≤ 4 * K := Nat.mul_le_mul_right K (by omega)
  have := draw_loop Q hQ n (by omega) l d kind K M (fun p q => ih n (by omega) p q) hM hd hK 0 0 [] k1 n1 g n 0 q m' [] (by omega) (.inl (by omega)) (by omega) (by omega) hq (by omega) rfl
  refine tot_mono this ?_
  rintro _ ⟨u, q, rfl, hu, hq⟩
  exact ⟨u, q, rfl, by simp only [T.sizeL] at hu; omega, hq.mono (by omega)⟩
 have hk1 : ∀ v : Int, v ∈ ([1, 5, 4, 8, 9, 3, 6, 7, 11, 15, 14, 10, 12, 13, 16, 2] : List Int) → opsOf v ≠ -1 := fun v hv => by simpa using List.all_eq_true.1 (show (([1, 5, 4, 8, 9, 3, 6, 7, 11, 15, 14, 10, 12, 13, 16, 2] : List Int).all fun v => decide (opsOf v ≠ -1)) = true by decide +kernel) v hv
 have hk2 : ∀ v : Int, v ∈ ([1, 7, 6, 2, 1] : List Int) → opsOf v ≠ -1 := fun v hv => by simpa using List.all_eq_true.1 (show (([1, 7, 6, 2, 1] : List Int).all fun v => decide (opsOf v ≠ -1)) = true by decide +kernel) v hv
 rw [E_spec_l1Draw]
 refine tot_call (t_num (by omega) hr (by omega) (by simp) (by simp)) ?_
 rintro _ ⟨v, p1, rfl, hv, hr1⟩
 simp only [evt]
 refine tot_cond (fun _ => ?_) (fun _ => ?_)
 ·refine tot_call (t_num (by omega) hr1 (by omega) (by simp) (by simp)) ?_
  rintro _ ⟨v2, p2, rfl, hv2, hr2⟩
  simp only [evt, f_l1Most (show 1 ≤ n by omega)]
  refine tot_cond (fun _ => ?_) (fun _ => ?_)
  ·refine tot_call (t_num (by omega) hr2 (by omega) (by simp) (by simp)) ?_
   rintro _ ⟨v3, p3, rfl, hv3, hr3⟩
   simp only [evt]
   exact fin _ _ _ _ _ (hk2 _ hv2) hr3 (by omega)
  ·exact fin _ _ _ _ _ (hk2 _ hv2) hr2 (by omega)
 ·simp only [f_l1Most (show 1 ≤ n by omega), evt]
  refine tot_cond (fun _ => ?_) (fun _ => ?_)
  ·refine tot_call (t_num (by omega) hr1 (by omega) (by simp) (by simp)) ?_
   rintro _ ⟨v3, p3, rfl, hv3, hr3⟩
   simp only [evt]
   exact fin _ _ _ _ _ (hk1 _ hv) hr3 (by omega)
  ·exact fin _ _ _ _ _ (hk1 _ hv) hr1 (by omega)
theorem t_l1Draw1 {n : Nat} (hn : 20 ≤ n) {l : List UInt8} {d : Int} (hd : -10 ≤ d ∧ d ≤ 1) {p m : Int} (hr : RdOk l p m) (hm : m ≤ 900000000000) : Tot (FF n 110 [.one (.ptr 0 0), nt d] [rdr l p]) (IsDraw 1 l (m + 3)) := by
 refine tot_step (C := 19) (by omega) fun n hn e => ?_
 have fin : ∀ (kind k1 n1 q m' : Int), opsOf kind = 0 → RdOk l q m' → m' ≤ m + 3 → Tot (L_spec_l1Draw_0_foo n n d kind 0 l q 0 0 [] k1 n1 []) (IsDraw 1 l (m + 3)) := by
  intro kind k1 n1 q m' hk hq hm'
  obtain ⟨c, rfl⟩ : ∃ c, n = c + 1 := ⟨n - 1, by omega⟩
  rw [L_spec_l1Draw_0_foo_eq, f_l1Kids (by omega), hk]
  simp only [evt]
  refine tot_cond (fun h => by simp at h) (fun _ => tot_some ?_)
  exact ⟨.mk k1 n1 [], q, rfl, by simp [T.size, T.sizeL], hq.mono (by omega)⟩
 have hk2 : ∀ v : Int, v ∈ ([1, 7, 6, 2, 1] : List Int) → opsOf v = 0 := fun v hv => by simpa using List.all_eq_true.1 (show (([1, 7, 6, 2, 1] : List Int).all fun v => decide (opsOf v = 0)) = true by decide +kernel) v hv
 rw [E_spec_l1Draw]
 refine tot_call (t_num (by omega) hr (by omega) (by simp) (by simp)) ?_
 rintro _ ⟨v, p1, rfl, hv, hr1⟩
 simp only [evt]
 rw [decide_eq_true (show d < 2 by omega), cond_true]
 refine tot_call (t_num (by omega) hr1 (by omega) (by simp) (by simp)) ?_
 rintro _ ⟨v2, p2, rfl, hv2, hr2⟩
 simp only [evt, f_l1Most (show 1 ≤ n by omega)]
 refine tot_cond (fun _ => ?_) (fun _ => ?_)
 ·refine tot_call (t_num (by omega) hr2 (by omega) (by simp) (by simp)) ?_
  rintro _ ⟨v3, p3, rfl, hv3, hr3⟩
  simp only [evt]
  exact fin _ _ _ _ _ (hk2 _ hv2) hr3 (by omega)
 ·exact fin _ _ _ _ _ (hk2 _ hv2) hr2 (by omega)
theorem draw_weaken {o : OR} {z z' : Nat} {l : List UInt8} {m m' : Int} (h : Tot o (IsDraw z l m)) (hz : z ≤ z') (hm : m ≤ m') : Tot o (IsDraw z' l m') :=
 tot_mono h fun r ⟨t, p, e, h1, h2⟩ => ⟨t, p, e, Nat.le_trans h1 hz, h2.mono hm⟩
theorem t_l1Draw2 {n : Nat} (hn : 40 ≤ n) {l : List UInt8} {p m : Int} (hr : RdOk l p m) (hm : m ≤ 800000000000) : Tot (FF n 110 [.one (.ptr 0 0), nt 2] [rdr l p]) (IsDraw 5 l (m + 15)) :=
 draw_weaken (t_l1Draw_step 900000000000 (by omega) (by omega) l 2 1 3 (by omega) (by omega) (by omega) (by omega) (fun k hk p q hr hq => t_l1Draw1 (by omega) (by omega) hr hq) hr (by omega)) (by omega) (by omega)
theorem t_l1Draw3 {n : Nat} (hn : 60 ≤ n) {l : List UInt8} {p m : Int} (hr : RdOk l p m) (hm : m ≤ 700000000000) : Tot (FF n 110 [.one (.ptr 0 0), nt 3] [rdr l p]) (IsDraw 21 l (m + 63)) :=
 draw_weaken (t_l1Draw_step 800000000000 (by omega) (by omega) l 3 5 15 (by omega) (by omega) (by omega) (by omega) (fun k hk p q hr hq => t_l1Draw2 (by omega) hr hq) hr (by omega)) (by omega) (by omega)
theorem t_l1Draw4 {n : Nat} (hn : 80 ≤ n) {l : List UInt8} {p m : Int} (hr : RdOk l p m) (hm : m ≤ 600000000000) : Tot (FF n 110 [.one (.ptr 0 0), nt 4] [rdr l p]) (IsDraw 85 l (m + 255)) :=
 draw_weaken (t_l1Draw_step 700000000000 (by omega) (by omega) l 4 21 63 (by omega) (by omega) (by omega) (by omega) (fun k hk p q hr hq => t_l1Draw3 (by omega) hr hq) hr (by omega)) (by omega) (by omega)
abbrev IsDrawV (l : List UInt8) (m : Int) (r : List V1 × List AObj) : Prop := ∃ (t : T) (p : Int), r = ([tm t], [rdr l p]) ∧ validB t = true ∧ RdOk l p m
theorem zero_valid : validB (.mk 7 0 []) = true := by decide +kernel
theorem t_l1Any {n : Nat} (hn : 500 ≤ n) {l : List UInt8} {p m : Int} (hr : RdOk l p m) (hm : m ≤ 500000000000) : Tot (FF n 75 [.one (.ptr 0 0)] [rdr l p]) (IsDrawV l (m + 256)) := by
 refine tot_step (C := 499) (by omega) fun n hn e => ?_
 rw [E_spec_l1Any]
 refine tot_call (t_num (by omega) hr (by omega) (by simp) (by simp)) ?_
 rintro _ ⟨v, p1, rfl, hv, hr1⟩
 simp only [evt]
 have hd : Tot (FF n 110 [.one (.ptr 0 0), nt v] [rdr l p1]) (IsDraw 85 l (m + 256)) := by
  simp only [List.mem_cons, List.not_mem_nil, or_false] at hv
  rcases hv with rfl | rfl | rfl | rfl | rfl
  ·exact draw_weaken (t_l1Draw3 (by omega) hr1 (by omega)) (by omega) (by omega)
  ·exact draw_weaken (t_l1Draw4 (by omega) hr1 (by omega)) (by omega) (by omega)
  ·exact draw_weaken (t_l1Draw2 (by omega) hr1 (by omega)) (by omega) (by omega)
  ·exact draw_weaken (t_l1Draw3 (by omega) hr1 (by omega)) (by omega) (by omega)
  ·exact draw_weaken (t_l1Draw1 (by omega) (by omega) hr1 (by omega)) (by omega) (by omega)
 refine tot_call hd ?_
 rintro _ ⟨t, p2, rfl, hz, hr2⟩
 simp only [evt, f_TermValidS (show t.size + 6 ≤ n by omega) (show t.size ≤ 4000000 by omega)]
 refine tot_cond (fun h => tot_some ?_) (fun _ => ?_)
 ·exact ⟨t, p2, rfl, h, hr2⟩
 ·simp only [f_l1Leaf (show 1 ≤ n by omega), evt]
  refine tot_some ?_
  exact ⟨.mk 7 0 [], p2, rfl, zero_valid, hr2⟩
theorem set_size (ts : List T) (v : T) (h : 0 < ts.length) : T.sizeL (ts.set 0 v) ≤ T.sizeL ts + v.size := by
 match ts, h with
 | t :: ts, _ => simp only [List.set_cons_zero, T.sizeL]; omega
theorem snoc_size (ts : List T) (v : T) : T.sizeL (ts ++ [v]) = T.sizeL ts + v.size := by
 induction ts with
 | nil => simp [T.sizeL]
 | cons x ts ih => simp only [List.cons_append, T.sizeL, ih]; omega
theorem t_l1Mutate {n : Nat} {t : T} (hz : t.size ≤ 500000) (hn : t.size + 500 ≤ n) {l : List UInt8} {p m : Int} (hr : RdOk l p m) (hm : m ≤ 500000000000) : Tot (FF n 46 [.one (.ptr 0 0), tm t] [rdr l p]) (IsDraw (t.size + 2) l (m + 2)) := by
 refine tot_step (C := t.size + 499) (by omega) fun n hn e => ?_
 have hsz := T.size_eq t
 have hl := T.sizeL_len t.kids
 rw [E_spec_l1Mutate, f_l1Copy t (by omega) (by omega)]
 simp only [evt]
 refine tot_call (t_pick (by omega) hr (by omega) (by omega)) ?_
 rintro _ ⟨v, p1, rfl, hv0, hv1, hr1⟩
 have hap : roomB (t.kids ++ [T.mk 7 0 []]).length = true := roomB_ok (by simp; omega)
 have hs1 := snoc_size t.kids (.mk 7 0 [])
 have hs2 := set_size t.kids (.mk 1 25 [])
 have hz7 : (T.mk 7 0 []).size = 1 := rfl
 have hz1 : (T.mk 1 25 []).size = 1 := rfl
 rw [hz7] at hs1
 rw [hz1] at hs2
 simp (disch := simp) only [evt, f_l1Leaf (show 1 ≤ n by omega), f_l1Node (show 1 ≤ n by omega), hap]
 repeat' (first | (simp (disch := omega) only [wrap64]; done) | (simp (disch := omega) only [wrap64]) | (with_reducible refine tot_cond (fun hq => ?_) (fun hq => ?_) <;> (try simp (disch := omega) only [wrap64] at hq) <;> (try simp only [decide_eq_true_eq, decide_eq_false_iff_not, Bool.not_eq_true', Bool.not_eq_false', Bool.and_eq_true, Bool.and_eq_false_iff, inB, Bool.not_true, Bool.not_false] at hq) <;> try (exfalso; omega; done)) | (with_reducible refine tot_call (t_num (by omega) hr1 (by omega) (by simp) (by simp)) ?_; rintro _ ⟨w, p2, rfl, hw, hr2⟩; simp only [evt]) | ((with_reducible refine tot_some ?_); (exact ⟨.mk w t.n t.kids, _, rfl, by simp only [T.size]; omega, hr2.mono (by omega)⟩)) | ((with_reducible refine tot_some ?_); (exact ⟨.mk t.k w t.kids, _, rfl, by simp only [T.size]; omega, hr2.mono (by omega)⟩)) | ((with_reducible refine tot_some ?_); (exact ⟨t, _, rfl, by omega, hr1.mono (by omega)⟩)) | ((with_reducible refine tot_some ?_); (exact ⟨.mk t.k t.n (t.kids ++ [.mk 7 0 []]), _, rfl, by simp only [T.size]; omega, hr1.mono (by omega)⟩)) | ((with_reducible refine tot_some ?_); (exact ⟨.mk 8 0 [t], _, rfl, by simp only [T.size, T.sizeL]; omega, hr1.mono (by omega)⟩)) | ((with_reducible refine tot_some ?_); (exact ⟨.mk t.k t.n (t.kids.set 0 (.mk 1 25 [])), _, rfl, by simp only [T.size]; have := hs2 (by omega); omega, hr1.mono (by omega)⟩)))
theorem t_l3Plus {n : Nat} (hn : 1 ≤ n) : Tot (FF n 73 [] []) (fun r => r = ([st (bytesOf [91, 78, 93, 91, 78, 93, 60, 91, 78, 93, 78, 44, 35, 49, 44, 91, 78, 93, 91, 78, 93, 43, 35, 48, 44, 35, 48, 62])], [])) := by
 refine tot_step (C := 0) (by omega) fun n hn e => ?_
 exact ⟨_, E_spec_l3Plus n, rfl⟩
theorem all_small (l : List ByteArray) (h : (l.all fun s => decide (s.size ≤ 300)) = true) (s : ByteArray) (hs : s ∈ l) : s.size ≤ 300 := by
 simpa using List.all_eq_true.1 h s hs
theorem t_l3Draw {n : Nat} (hn : 10000 ≤ n) {l : List UInt8} {p m : Int} (hr : RdOk l p m) (hm : m ≤ 400000000000) : Tot (FF n 34 [.one (.ptr 0 0)] [rdr l p]) (IsDrawV l (m + 300)) := by
 refine tot_step (C := 9999) (by omega) fun n hn e => ?_
 rw [E_spec_l3Draw]
 refine tot_call (t_l3Plus (by omega)) ?_
 rintro _ rfl
 simp only [evt]
 refine tot_cond (fun _ => ?_) (fun hq => by exfalso; revert hq; decide +kernel)
 refine tot_cond (fun _ => ?_) (fun hq => by exfalso; revert hq; decide +kernel)
 refine tot_call (t_l3Plus (by omega)) ?_
 rintro _ rfl
 simp only [evt]
 refine tot_cond (fun _ => ?_) (fun hq => by exfalso; revert hq; decide +kernel)
 refine tot_cond (fun _ => ?_) (fun hq => by exfalso; revert hq; decide +kernel)
 refine tot_call (t_of (by omega) hr (by omega) (by simp) (by simp)) ?_
 rintro _ ⟨s, p1, rfl, hs, hr1⟩
 have hsz : s.size ≤ 300 := all_small _ (by decide +kernel) s hs
 clear hs
 simp only [evt]
 refine tot_call (t_ParseTerm (s := s) (by omega) (by omega)) ?_
 rintro _ ⟨t, b, rfl, hb1, hb2⟩
 simp only [evt]
 refine tot_cond (fun hq => ?_) (fun hq => ?_)
 ·refine tot_call (t_pick (by omega) hr1 (by omega) (by omega)) ?_
  rintro _ ⟨v, p2, rfl, hv0, hv1, hr2⟩
  simp only [evt]
  refine tot_cond (fun _ => tot_some ?_) (fun _ => ?_)
  ·exact ⟨t, p2, rfl, hb1 hq, hr2.mono (by omega)⟩
  ·refine tot_call (t_l1Any (by omega) hr2 (by omega)) ?_
   rintro _ ⟨u, p3, rfl, hu, hr3⟩
   simp only [evt]
   refine tot_some ?_
   exact ⟨u, p3, rfl, hu, hr3.mono (by omega)⟩
 ·refine tot_call (t_l1Any (by omega) hr1 (by omega)) ?_
  rintro _ ⟨u, p3, rfl, hu, hr3⟩
  simp only [evt]
  refine tot_some ?_
  exact ⟨u, p3, rfl, hu, hr3.mono (by omega)⟩
end Go.Proofs.YtnogehmgpfpjmaaGreatDoor
end
section
namespace Go.Proofs.YtnogehmgpfpjmaaGreatDoor
open Go Go.Ab Go.Dk
theorem sz_ext (s : ByteArray) (a b : Nat) (h : a ≤ b) (hb : b ≤ s.size) : (s.extract a b).size = b - a := by
 rw [ByteArray.size_extract]; omega
theorem sz_app (a b : ByteArray) : (a ++ b).size = a.size + b.size := by simp
theorem t_l1Bend {n : Nat} (hn : 10 ≤ n) {s : ByteArray} {ss : List ByteArray} (hs : s.size ≤ 1000000) (hss : ss ≠ []) (hl : ss.length ≤ 1000) (hsz : ∀ x ∈ ss, x.size ≤ 300) {l : List UInt8} {p m : Int} (hr : RdOk l p m) (hm : m ≤ 400000000000) :
   Tot (FF n 36 [.one (.ptr 0 0), st s, .one (.fr (.ss ss))] [rdr l p]) (fun r => ∃ (s2 : ByteArray) (p' : Int), r = ([st s2], [rdr l p']) ∧ s2.size ≤ 1001000 ∧ RdOk l p' (m + 10)) := by
 refine tot_step (C := 9) (by omega) fun n hn e => ?_
 rw [E_spec_l1Bend]
 refine tot_cond (fun _ => tot_some ⟨s, p, rfl, by omega, hr.mono (by omega)⟩) (fun hq => ?_)
 have hq : 0 < s.size := by have := of_decide_eq_false hq; omega
 refine tot_call (t_pick (by omega) hr (by omega) (by omega)) ?_
 rintro _ ⟨v, p1, rfl, hv0, hv1, hr1⟩
 simp only [evt]
 refine tot_cond (fun _ => tot_some ⟨s, p1, rfl, by omega, hr1.mono (by omega)⟩) (fun _ => ?_)
 refine tot_call (t_pick (by omega) hr1 (by omega) (by omega)) ?_
 rintro _ ⟨k, p2, rfl, hk0, hk1, hr2⟩
 simp only [evt]
 have hk1 := hk1 (by omega)
 have i1 : Go.Ab.inB 0 k s.size = true := by simp only [inB, Bool.and_eq_true, decide_eq_true_eq]; omega
 rw [i1, cond_true]
 refine tot_call (t_of (by omega) hr2 (by omega) hss hl) ?_
 rintro _ ⟨x, p3, rfl, hx, hr3⟩
 have hx := hsz x hx
 simp only [evt]
 have e1 : (s.extract (0 : Int).toNat k.toNat).size = k.toNat := by rw [sz_ext _ _ _ (by omega) (by omega)]; omega
 rw [szc (by rw [e1]; omega), cond_true]
 refine tot_call (t_pick (by omega) hr3 (by omega) (by omega)) ?_
 rintro _ ⟨w, p4, rfl, hw0, hw1, hr4⟩
 simp only [evt]
 have hw1 := hw1 (by omega)
 rw [wrap64 (show -9223372036854775808 ≤ k + w ∧ k + w ≤ 9223372036854775807 by omega)]
 have i2 : Go.Ab.inB (k + w) s.size s.size = true := by simp only [inB, Bool.and_eq_true, decide_eq_true_eq]; omega
 have e2 : (s.extract (k + w).toNat ((s.size : Nat) : Int).toNat).size = s.size - (k + w).toNat := by rw [Int.toNat_natCast, sz_ext _ _ _ (by omega) (by omega)]
 rw [i2, cond_true, szc (by rw [sz_app, e1, e2]; omega), cond_true]
 refine tot_some ⟨_, p4, rfl, by rw [sz_app, sz_app, e1, e2]; omega, hr4.mono (by omega)⟩
theorem t_ShowNamedS {n : Nat} {t : T} {s : ByteArray} (hn : 5000000 ≤ n) (hz : t.size ≤ 4000000) (hm : s.size ≤ 1048577) : Tot (FF n 23 [tm t, st s] []) (fun r => ∃ x : ByteArray, r = ([st x], []) ∧ x.size ≤ 3200) := by
 have h := f_ShowNamedS (n := n) (t := t) (names := s.data.toList) hn hz hm
 simp only [sr, ← by_of] at h
 exact ⟨_, h, _, rfl, by rw [by_size]; exact shX_len _ _⟩
theorem t_DrawParseNamed {n : Nat} (hn : 5000100 ≤ n) (l : List UInt8) : Tot (FF n 14 [.one (.fr (.bs l))] []) (fun r => ∃ s names : ByteArray, r = ([st s, st names], []) ∧ s.size ≤ 1001000 ∧ names.size ≤ 300) := by
 refine tot_step (C := 5000099) (by omega) fun n hn e => ?_
 rw [E_spec_DrawParseNamed]
 refine tot_call (t_open (by omega) l) ?_
 rintro _ ⟨l', rfl, hr⟩
 simp only [evt]
 refine tot_call (t_l3Draw (by omega) hr (by omega)) ?_
 rintro _ ⟨t, p1, rfl, hv, hr1⟩
 have hz := validB_size hv
 simp only [evt]
 refine tot_call (t_of (by omega) hr1 (by omega) (by simp) (by simp)) ?_
 rintro _ ⟨s, p2, rfl, hs, hr2⟩
 have hsz : s.size ≤ 300 := all_small _ (by decide +kernel) s hs
 clear hs
 simp only [evt]
 refine tot_call (t_ShowNamedS (by omega) (by omega) (by omega)) ?_
 rintro _ ⟨x, rfl, hx⟩
 simp only [evt]
 refine tot_call (t_l1Bend (by omega) (by omega) (by simp) (by simp) (all_small _ (by decide +kernel)) hr2 (by omega)) ?_
 rintro _ ⟨y, p3, rfl, hy, hr3⟩
 simp only [evt]
 exact tot_some ⟨y, s, rfl, hy, hsz⟩
theorem t_DrawNamedSame {n : Nat} (hn : 5000100 ≤ n) (l : List UInt8) : Tot (FF n 20 [.one (.fr (.bs l))] []) (fun r => ∃ a b names : ByteArray, r = ([st a, st b, st names], []) ∧ a.size ≤ 1001000 ∧ b.size ≤ 1001000 ∧ names.size ≤ 300) := by
 refine tot_step (C := 5000099) (by omega) fun n hn e => ?_
 rw [E_spec_DrawNamedSame]
 refine tot_call (t_open (by omega) l) ?_
 rintro _ ⟨l', rfl, hr⟩
 simp only [evt]
 refine tot_call (t_l3Draw (by omega) hr (by omega)) ?_
 rintro _ ⟨t, p1, rfl, hv, hr1⟩
 have hz := validB_size hv
 simp only [evt]
 refine tot_call (t_of (by omega) hr1 (by omega) (by simp) (by simp)) ?_
 rintro _ ⟨s, p2, rfl, hs, hr2⟩
 have hsz : s.size ≤ 300 := all_small _ (by decide +kernel) s hs
 clear hs
 simp only [evt]
 refine tot_call (t_ShowNamedS (by omega) (by omega) (by omega)) ?_
 rintro _ ⟨x, rfl, hx⟩
 simp only [evt]
 refine tot_cond (fun _ => ?_) (fun _ => tot_some ⟨x, x, s, rfl, by omega, by omega, hsz⟩)
 refine tot_call (t_pick (by omega) hr2 (by omega) (by omega)) ?_
 rintro _ ⟨v, p3, rfl, hv0, hv1, hr3⟩
 simp only [evt]
 refine tot_cond (fun _ => ?_) (fun _ => tot_some ⟨x, x, s, rfl, by omega, by omega, hsz⟩)
 refine tot_call (t_l1Bend (by omega) (by omega) (by simp) (by simp) (all_small _ (by decide +kernel)) hr3 (by omega)) ?_
 rintro _ ⟨y, p4, rfl, hy, hr4⟩
 simp only [evt]
 exact tot_some ⟨x, y, s, rfl, by omega, hy, hsz⟩
end Go.Proofs.YtnogehmgpfpjmaaGreatDoor
end
section
namespace Go.Proofs.YtnogehmgpfpjmaaGreatDoor
open Go Go.Ab Go.Dk
end Go.Proofs.YtnogehmgpfpjmaaGreatDoor
end
section
namespace Go.Proofs.YtnogehmgpfpjmaaGreatDoor
open Go Go.Ab Go.Dk
end Go.Proofs.YtnogehmgpfpjmaaGreatDoor
end
section
namespace Go.Proofs.YtnogehmgpfpjmaaGreatDoor
open Go Go.Ab Go.Dk
def readsB (r : OR) : Bool := match r with | some (_ :: .one (.bool b) :: _, _) => b | _ => false
set_option maxRecDepth 100000 in
theorem reads0 (n : Nat) : readsB (FF (n + 200) 74 [st (bytesOf [35, 48])] []) = true := by kernel_rfl
set_option maxRecDepth 100000 in
theorem reads1 (n : Nat) : readsB (FF (n + 200) 74 [st (bytesOf [33, 35, 49])] []) = true := by kernel_rfl
set_option maxRecDepth 100000 in
theorem reads2 (n : Nat) : readsB (FF (n + 200) 74 [st (bytesOf [40, 78, 62, 42, 48, 41])] []) = true := by kernel_rfl
set_option maxRecDepth 100000 in
theorem reads3 (n : Nat) : readsB (FF (n + 200) 74 [st (bytesOf [40, 35, 48, 32, 48, 41])] []) = true := by kernel_rfl
end Go.Proofs.YtnogehmgpfpjmaaGreatDoor
end
section
namespace Go.Proofs.YtnogehmgpfpjmaaGreatDoor
open Go Go.Ab Go.Dk
def szN : Nat → Nat
 | 0 => 1
 | k + 1 => 8 + 3 * szN k
def rdC : Nat → Int
 | 0 => 2
 | k + 1 => 2 + 3 * rdC k
theorem szN_pos : ∀ k, 1 ≤ szN k
 | 0 => by simp [szN]
 | k + 1 => by simp only [szN]; omega
theorem rdC_pos : ∀ k, 2 ≤ rdC k
 | 0 => by simp [rdC]
 | k + 1 => by have := rdC_pos k; simp only [rdC]; omega
theorem t_l1Node {n : Nat} (hn : 1 ≤ n) (k : Int) (l : List T) (hl : l.length ≤ 1099511627776) : Tot (FF n 53 [nt k, tms l] []) (fun r => r = ([tm (.mk k 0 l)], [])) := ⟨_, f_l1Node hn k l hl, rfl⟩
theorem t_l1Leaf {n : Nat} (hn : 1 ≤ n) (k m : Int) : Tot (FF n 56 [nt k, nt m] []) (fun r => r = ([tm (.mk k m [])], [])) := ⟨_, f_l1Leaf hn k m, rfl⟩
theorem t_l5Nat : ∀ (k : Nat) {n : Nat} {l : List UInt8} {p m v d : Int}, 20 * k + 20 ≤ n → (0 ≤ v ∧ v + 2 * k ≤ 1000) → (-10 ≤ d ∧ d ≤ k) → RdOk l p m → m + rdC k ≤ 1000000000 → Tot (FF n 85 [.one (.ptr 0 0), nt v, nt d] [rdr l p]) (IsDraw (szN k) l (m + rdC k))
 | 0, n, l, p, m, v, d, hn, hv, hd, hr, hm => by
  refine tot_step (C := 19) (by omega) fun n hn e => ?_
  rw [E_spec_l5Nat]
  simp only [f_l1Leaf (show 1 ≤ n by omega), evt]
  rw [decide_eq_true (show d < 1 by omega), cond_true]
  simp only [szN, rdC] at hm ⊢
  repeat' (first | (simp (disch := omega) only [wrap64]; done) | (simp (disch := omega) only [wrap64]) | (with_reducible refine tot_cond (fun hq => ?_) (fun hq => ?_) <;> (try simp (disch := omega) only [wrap64] at hq) <;> (try simp only [decide_eq_true_eq, decide_eq_false_iff_not, Bool.not_eq_true', Bool.not_eq_false', Bool.and_eq_true, Bool.and_eq_false_iff, inB, Bool.not_true, Bool.not_false] at hq) <;> try (exfalso; omega; done)) | (with_reducible refine tot_call (t_pick (by omega) hr (by omega) (by omega)) ?_; rintro _ ⟨w, p, rfl, hw, hw2, hr⟩; simp only [evt]) | (with_reducible refine tot_call (t_l1Leaf (by omega) _ _) ?_; rintro _ rfl; simp only [evt]) | ((with_reducible refine tot_some ?_); (exact ⟨.mk 7 0 [], _, rfl, by simp [T.size, T.sizeL], hr.mono (by omega)⟩)) | ((with_reducible refine tot_some ?_); (exact ⟨.mk 1 _ [], _, rfl, by simp [T.size, T.sizeL], hr.mono (by omega)⟩)))
 | k + 1, n, l, p, m, v, d, hn, hv, hd, hr, hm => by
  refine tot_step (C := 20 * k + 39) (by omega) fun n hn e => ?_
  have ih := @t_l5Nat k n l
  have s1 := szN_pos k
  have s2 := rdC_pos k
  rw [E_spec_l5Nat]
  simp only [f_l1Leaf (show 1 ≤ n by omega), evt]
  simp only [szN, rdC] at hm ⊢
  repeat' (first | (simp (disch := omega) only [wrap64]; done) | (simp (disch := omega) only [wrap64]) | (with_reducible refine tot_cond (fun hq => ?_) (fun hq => ?_) <;> (try simp (disch := omega) only [wrap64] at hq) <;> (try simp only [decide_eq_true_eq, decide_eq_false_iff_not, Bool.not_eq_true', Bool.not_eq_false', Bool.and_eq_true, Bool.and_eq_false_iff, inB, Bool.not_true, Bool.not_false] at hq) <;> try (exfalso; omega; done)) | (with_reducible refine tot_call (t_pick (by omega) hr (by omega) (by omega)) ?_; rintro _ ⟨w, p, rfl, hw, hw2, hr⟩; simp only [evt]) | (with_reducible refine tot_call (t_num (by omega) hr (by omega) (by simp) (by simp)) ?_; rintro _ ⟨w, p, rfl, hw, hr⟩; simp only [evt]) | (with_reducible refine tot_call (t_l1Leaf (by omega) _ _) ?_; rintro _ rfl; simp only [evt]) | (with_reducible refine tot_call (t_l1Node (by omega) _ _ (by simp)) ?_; rintro _ rfl; simp only [evt]) | (with_reducible refine tot_call (ih (by omega) (by omega) (by omega) hr (by omega)) ?_; rintro _ ⟨t, p, rfl, hz, hr⟩; simp only [evt]) | ((with_reducible refine tot_some ?_); (exact ⟨.mk 7 0 [], _, rfl, by simp only [T.size, T.sizeL]; omega, hr.mono (by omega)⟩)) | ((with_reducible refine tot_some ?_); (exact ⟨.mk 1 _ [], _, rfl, by simp only [T.size, T.sizeL]; omega, hr.mono (by omega)⟩)) | ((with_reducible refine tot_some ?_); (exact ⟨.mk 5 0 [.mk 4 0 [.mk 6 0 [], _], _], _, rfl, by simp only [T.size, T.sizeL]; omega, hr.mono (by omega)⟩)) | ((with_reducible refine tot_some ?_); (exact ⟨.mk 9 0 [.mk 4 0 [.mk 6 0 [], .mk 6 0 []], _, .mk 4 0 [.mk 6 0 [], .mk 4 0 [.mk 6 0 [], _]], _], _, rfl, by simp only [T.size, T.sizeL]; omega, hr.mono (by omega)⟩)) | ((with_reducible refine tot_some ?_); (exact ⟨.mk _ 0 [.mk 14 0 [.mk 13 0 [.mk 6 0 [], .mk 6 0 []], _, _]], _, rfl, by simp only [T.size, T.sizeL]; omega, hr.mono (by omega)⟩)) | ((with_reducible refine tot_some ?_); (exact ⟨.mk 12 0 [.mk 4 0 [.mk 6 0 [], .mk 6 0 []], .mk 11 0 [_], _], _, rfl, by simp only [T.size, T.sizeL]; omega, hr.mono (by omega)⟩)) | ((with_reducible refine tot_some ?_); (exact ⟨.mk 8 0 [_], _, rfl, by simp only [T.size, T.sizeL]; omega, hr.mono (by omega)⟩)) | ((with_reducible refine tot_some ?_); (exact ⟨_, _, rfl, by omega, hr.mono (by omega)⟩)))
theorem read_loop (n : Nat) (hn : 7000 ≤ n) (ss : List ByteArray) (hs : ∀ s ∈ ss, s.size ≤ 300) (hl : ss.length ≤ 1000) : ∀ (g c i : Nat) (acc : List T), g < c → i + g = ss.length → acc.length ≤ i → (∀ t ∈ acc, validB t = true) →
   Tot (L_spec_l5Read_0 n c ss i acc) (fun r => ∃ ts, r = ([tms ts], []) ∧ (∀ t ∈ ts, validB t = true) ∧ ts.length ≤ ss.length ∧ acc.length ≤ ts.length ∧ ((∃ s ∈ ss.drop i, ∀ k, readsB (FF (k + 200) 74 [st s] []) = true) → ts ≠ []))
 | g, 0, i, acc, hg, _, _, _ => by omega
 | 0, c + 1, i, acc, _, hi, ha, hz => by
  rw [L_spec_l5Read_0_eq, decide_eq_false (show ¬ (i : Int) < ss.length by omega), List.drop_of_length_le (by omega)]
  exact ⟨_, rfl, acc, rfl, hz, by omega, Nat.le_refl _, fun ⟨s, h, _⟩ => by cases h⟩
 | g + 1, c + 1, i, acc, hg, hi, ha, hz => by
  have hlt : i < ss.length := by omega
  have hsz := hs _ (List.getElem_mem hlt)
  rw [L_spec_l5Read_0_eq, decide_eq_true (show (i : Int) < ss.length by omega), decide_eq_true (show 0 ≤ (i : Int) by omega), Int.toNat_natCast, List.getElem?_eq_getElem hlt]
  simp only [cond_true, Option.bind_some]
  obtain ⟨r, e, t, b, rfl, hb1, hb2⟩ := t_ParseTerm (n := n) (s := ss[i]) (by omega) (by omega)
  have w : IntKind.i64.wrap ((i : Int) + 1) = ((i + 1 : Nat) : Int) := wrap64 (by omega)
  rw [e, w]
  simp only [evt]
  rw [List.drop_eq_getElem_cons hlt]
  cases b with
  | true =>
   simp only [cond_true]
   rw [roomB_ok (by simp; omega), cond_true]
   refine tot_mono (read_loop n hn ss hs hl g c (i + 1) (acc ++ [t]) (by omega) (by omega) (by simp; omega) (fun u hu => ?_)) ?_
   ·rcases List.mem_append.1 hu with h | h
    ·exact hz u h
    ·rw [List.mem_singleton.1 h]; exact hb1 rfl
   ·rintro _ ⟨ts, rfl, h1, h2, h3, h4⟩
    simp only [List.length_append, List.length_cons, List.length_nil] at h3
    exact ⟨ts, rfl, h1, h2, by omega, fun _ h => by rw [h] at h3; simp at h3⟩
  | false =>
   simp only [cond_false]
   refine tot_mono (read_loop n hn ss hs hl g c (i + 1) acc (by omega) (by omega) (by omega) hz) ?_
   rintro _ ⟨ts, rfl, h1, h2, h3, h4⟩
   refine ⟨ts, rfl, h1, h2, h3, fun ⟨s, hs', hr⟩ => ?_⟩
   rcases List.mem_cons.1 hs' with rfl | h
   ·have := hr (n - 200)
    rw [show n - 200 + 200 = n by omega, e] at this
    cases this
   ·exact h4 ⟨s, h, hr⟩
theorem t_l5Read {n : Nat} (hn : 7100 ≤ n) (ss : List ByteArray) (hs : ∀ s ∈ ss, s.size ≤ 300) (hl : ss.length ≤ 1000) :
   Tot (FF n 87 [.one (.fr (.ss ss))] []) (fun r => ∃ ts, r = ([tms ts], []) ∧ (∀ t ∈ ts, validB t = true) ∧ ts.length ≤ ss.length ∧ ((∃ s ∈ ss, ∀ k, readsB (FF (k + 200) 74 [st s] []) = true) → ts ≠ [])) := by
 refine tot_step (C := 7099) (by omega) fun n hn e => ?_
 rw [E_spec_l5Read]
 refine tot_mono (read_loop n (by omega) ss hs hl ss.length n 0 [] (by omega) (by omega) (by simp) (by simp)) ?_
 rintro _ ⟨ts, rfl, h1, h2, h3, h4⟩
 exact ⟨ts, rfl, h1, h2, by simpa using h4⟩
theorem t_l5Pairs {n : Nat} (hn : 1 ≤ n) (v : Int) : Tot (FF n 86 [nt v] []) (fun r => ∃ a b, r = ([.one (.fr (.ss a)), .one (.fr (.ss b))], []) ∧ (∀ s ∈ a, s.size ≤ 300) ∧ (∀ s ∈ b, s.size ≤ 300) ∧ a.length ≤ 6 ∧ b.length ≤ 100 ∧ ∃ s ∈ b, ∀ k, readsB (FF (k + 200) 74 [st s] []) = true) := by
 refine tot_step (C := 0) (by omega) fun n hn e => ?_
 rw [E_spec_l5Pairs]
 refine tot_cond (fun _ => ⟨_, rfl, _, _, rfl, all_small _ (by decide +kernel), all_small _ (by decide +kernel), by simp, by simp, _, ?_, reads2⟩) (fun _ => ?_)
 ·simp
 refine tot_cond (fun _ => ⟨_, rfl, _, _, rfl, all_small _ (by decide +kernel), all_small _ (by decide +kernel), by simp, by simp, _, ?_, reads1⟩) (fun _ => ?_)
 ·simp
 refine tot_cond (fun _ => ⟨_, rfl, _, _, rfl, all_small _ (by decide +kernel), all_small _ (by decide +kernel), by simp, by simp, _, ?_, reads0⟩) (fun _ => ⟨_, rfl, _, _, rfl, all_small _ (by decide +kernel), all_small _ (by decide +kernel), by simp, by simp, _, ?_, reads3⟩)
 ·simp
 ·simp
abbrev IsCtx (l : List UInt8) (m : Int) (r : List V1 × List AObj) : Prop := ∃ (g : List T) (t : T) (p : Int), r = ([tms g, tm t], [rdr l p]) ∧ validB t = true ∧ (∀ u ∈ g, validB u = true) ∧ g.length ≤ 6 ∧ RdOk l p m
theorem draw5_loop (n : Nat) (hn : 20000 ≤ n) (l : List UInt8) (z1 z2 : Int) (l0 : List T) (v : Nat) (hv : v ≤ 2) : ∀ (g c i : Nat) (p m : Int) (acc : List T), g < c → i + g = v → RdOk l p m → m ≤ 1000 → acc.length = i → (∀ u ∈ acc, validB u = true) →
   Tot (L_spec_l5Draw_0_fo n c v i l p z1 z2 l0 acc) (IsCtx l 1000000)
 | g, 0, i, p, m, acc, hg, _, _, _, _, _ => by omega
 | 0, c + 1, i, p, m, acc, _, hi, hr, hm, ha, hz => by
  rw [L_spec_l5Draw_0_fo_eq, decide_eq_false (show ¬ (i : Int) < v by omega), cond_false]
  refine tot_call (t_num (by omega) hr (by omega) (by simp) (by simp)) ?_
  rintro _ ⟨w, p, rfl, hw, hr⟩
  simp only [evt]
  have hw4 : 0 ≤ w ∧ w ≤ 4 := by
   simp only [List.mem_cons, List.not_mem_nil, or_false] at hw
   omega
  have e0 : szN 4 = 401 := by decide
  have e1 : rdC 4 = 242 := by decide
  refine tot_call (t_l5Nat 4 (by omega) (by omega) (by omega) hr (by omega)) ?_
  rintro _ ⟨t, p, rfl, hz2, hr⟩
  simp only [evt]
  rw [f_TermValidS (show t.size + 6 ≤ n by omega) (by omega)]
  simp only [evt]
  refine tot_cond (fun hq => tot_some ⟨acc, t, p, rfl, hq, hz, by omega, hr.mono (by omega)⟩) (fun _ => ?_)
  refine tot_call (t_pick (by omega) hr (by omega) (by omega)) ?_
  rintro _ ⟨w, p, rfl, hw, hw2, hr⟩
  simp only [evt]
  refine tot_call (t_l5Pairs (by omega) w) ?_
  rintro _ ⟨a, b, rfl, ha1, hb1, ha2, hb2, hx⟩
  simp only [evt]
  refine tot_call (t_l5Read (by omega) b hb1 (by omega)) ?_
  rintro _ ⟨ts, rfl, ht1, ht2, ht3⟩
  simp only [evt]
  refine tot_call (t_l5Read (by omega) a ha1 (by omega)) ?_
  rintro _ ⟨gs, rfl, hg1, hg2, hg3⟩
  simp only [evt]
  have hpos := List.length_pos_iff.2 (ht3 hx)
  refine tot_call (t_pick (by omega) hr (by omega) (by omega)) ?_
  rintro _ ⟨w, p, rfl, hw, hw2, hr⟩
  have hw2 := hw2 (by omega)
  have hlt : w.toNat < ts.length := by omega
  simp only [evt]
  rw [decide_eq_true hw, cond_true, List.getElem?_eq_getElem hlt]
  exact tot_some ⟨gs, ts[w.toNat], p, rfl, ht1 _ (List.getElem_mem hlt), hg1, by omega, hr.mono (by omega)⟩
 | g + 1, c + 1, i, p, m, acc, hg, hi, hr, hm, ha, hz => by
  rw [L_spec_l5Draw_0_fo_eq, decide_eq_true (show (i : Int) < v by omega), cond_true, f_l1Leaf (show 1 ≤ n by omega)]
  simp only [evt]
  have w : IntKind.i64.wrap ((i : Int) + 1) = ((i + 1 : Nat) : Int) := wrap64 (by omega)
  rw [roomB_ok (by simp; omega), cond_true, w]
  have six : validB (.mk 6 0 []) = true := by decide +kernel
  have nx := draw5_loop n hn l z1 z2 l0 v hv g c (i + 1) p m (acc ++ [.mk 6 0 []]) (by omega) (by omega) hr hm (by simp; omega) (by
   intro u hu
   rcases List.mem_append.1 hu with h | h
   ·exact hz u h
   ·rw [List.mem_singleton.1 h]; exact six)
  with_reducible exact nx
theorem t_l5Draw {n : Nat} (hn : 20001 ≤ n) {l : List UInt8} {p m : Int} (hr : RdOk l p m) (hm : m ≤ 900) : Tot (FF n 44 [.one (.ptr 0 0)] [rdr l p]) (IsCtx l 1000000) := by
 refine tot_step (C := 20000) (by omega) fun n hn e => ?_
 rw [E_spec_l5Draw]
 refine tot_call (t_pick (by omega) hr (by omega) (by omega)) ?_
 rintro _ ⟨w, p, rfl, hw, hw2, hr⟩
 simp only [evt]
 refine tot_cond (fun _ => ?_) (fun _ => ?_)
 ·refine tot_call (t_num (by omega) hr (by omega) (by simp) (by simp)) ?_
  rintro _ ⟨w, p, rfl, hw, hr⟩
  simp only [evt]
  obtain ⟨v, rfl, hv⟩ : ∃ v : Nat, w = v ∧ v ≤ 2 := by
   simp only [List.mem_cons, List.not_mem_nil, or_false] at hw
   exact ⟨w.toNat, by omega, by omega⟩
  exact draw5_loop n hn l 0 0 [] v hv v n 0 p _ [] (by omega) (by omega) hr (by omega) rfl (by simp)
 ·refine tot_call (t_pick (by omega) hr (by omega) (by omega)) ?_
  rintro _ ⟨w, p, rfl, hw, hw2, hr⟩
  simp only [evt]
  refine tot_call (t_l5Pairs (by omega) w) ?_
  rintro _ ⟨a, b, rfl, ha1, hb1, ha2, hb2, hx⟩
  simp only [evt]
  refine tot_call (t_l5Read (by omega) b hb1 (by omega)) ?_
  rintro _ ⟨ts, rfl, ht1, ht2, ht3⟩
  simp only [evt]
  refine tot_call (t_l5Read (by omega) a ha1 (by omega)) ?_
  rintro _ ⟨gs, rfl, hg1, hg2, hg3⟩
  simp only [evt]
  have hpos := List.length_pos_iff.2 (ht3 hx)
  refine tot_call (t_pick (by omega) hr (by omega) (by omega)) ?_
  rintro _ ⟨w, p, rfl, hw, hw2, hr⟩
  have hw2 := hw2 (by omega)
  have hlt : w.toNat < ts.length := by omega
  simp only [evt]
  rw [decide_eq_true hw, cond_true, List.getElem?_eq_getElem hlt]
  exact tot_some ⟨gs, ts[w.toNat], p, rfl, ht1 _ (List.getElem_mem hlt), hg1, by omega, hr.mono (by omega)⟩
end Go.Proofs.YtnogehmgpfpjmaaGreatDoor
end
section
namespace Go.Proofs.YtnogehmgpfpjmaaGreatDoor
open Go Go.Ab Go.Dk
theorem law_of {C : Nat} {f : FuncId} {args : List V1} (h : ∀ n, C ≤ n → Tot (FF n f args []) (fun r => r = ([.one (.bool true)], []))) : Ev f args [] ([.one (.bool true)], []) :=
 ⟨C, fun n hn => by obtain ⟨r, h1, rfl⟩ := h n hn; exact h1⟩
theorem as_list (s : ByteArray) : ∃ l, s = bytesOf l := ⟨_, by_of s⟩
theorem t_l6Names {n : Nat} (hn : 10 ≤ n) {l : List UInt8} {p m : Int} (hr : RdOk l p m) (hm : m ≤ 500000000000) : Tot (FF n 45 [.one (.ptr 0 0)] [rdr l p]) (fun r => ∃ (s : ByteArray) (p' : Int), r = ([st s], [rdr l p']) ∧ s.size ≤ 300 ∧ RdOk l p' (m + 1)) := by
 refine tot_step (C := 9) (by omega) fun n hn e => ?_
 rw [E_spec_l6Names]
 refine tot_call (t_of (by omega) hr (by omega) (by simp) (by simp)) ?_
 rintro _ ⟨s, p2, rfl, hs, hr2⟩
 have hsz : s.size ≤ 300 := all_small _ (by decide +kernel) s hs
 clear hs
 simp only [evt]
 exact tot_some ⟨s, p2, rfl, hsz, hr2⟩
theorem t_DrawShowNamed {n : Nat} (hn : 5000100 ≤ n) (l : List UInt8) : Tot (FF n 22 [.one (.fr (.bs l))] []) (fun r => ∃ (t : T) (names : ByteArray), r = ([tm t, st names], []) ∧ t.size ≤ 1000 ∧ names.size ≤ 300) := by
 refine tot_step (C := 5000099) (by omega) fun n hn e => ?_
 rw [E_spec_DrawShowNamed]
 refine tot_call (t_open (by omega) l) ?_
 rintro _ ⟨l', rfl, hr⟩
 simp only [evt]
 refine tot_call (t_l3Draw (by omega) hr (by omega)) ?_
 rintro _ ⟨t, p1, rfl, hv, hr1⟩
 have hz := validB_size hv
 simp only [evt]
 refine tot_call (t_pick (by omega) hr1 (by omega) (by omega)) ?_
 rintro _ ⟨v, p2, rfl, hv0, hv1, hr2⟩
 simp only [evt]
 refine tot_cond (fun _ => ?_) (fun _ => ?_)
 ·refine tot_call (t_l5Draw (by omega) hr2 (by omega)) ?_
  rintro _ ⟨g, u, p3, rfl, hu, hg, hgl, hr3⟩
  have hz := validB_size hu
  simp only [evt]
  refine tot_call (t_of (by omega) hr3 (by omega) (by simp) (by simp)) ?_
  rintro _ ⟨s, p4, rfl, hs, hr4⟩
  have hsz : s.size ≤ 300 := all_small _ (by decide +kernel) s hs
  clear hs
  simp only [evt]
  refine tot_call (t_pick (by omega) hr4 (by omega) (by omega)) ?_
  rintro _ ⟨v2, p5, rfl, hv20, hv21, hr5⟩
  simp only [evt]
  refine tot_cond (fun _ => ?_) (fun _ => ?_)
  ·refine tot_call (t_l6Names (by omega) hr5 (by omega)) ?_
   rintro _ ⟨s2, p6, rfl, hs2, hr6⟩
   simp only [evt]
   refine tot_call (t_l1Mutate (by omega) (by omega) hr6 (by omega)) ?_
   rintro _ ⟨w, p7, rfl, hw, hr7⟩
   simp only [evt]
   exact tot_some ⟨w, s2, rfl, by omega, hs2⟩
  ·refine tot_call (t_l1Mutate (by omega) (by omega) hr5 (by omega)) ?_
   rintro _ ⟨w, p7, rfl, hw, hr7⟩
   simp only [evt]
   exact tot_some ⟨w, s, rfl, by omega, hsz⟩
 ·refine tot_call (t_of (by omega) hr2 (by omega) (by simp) (by simp)) ?_
  rintro _ ⟨s, p4, rfl, hs, hr4⟩
  have hsz : s.size ≤ 300 := all_small _ (by decide +kernel) s hs
  clear hs
  simp only [evt]
  refine tot_call (t_pick (by omega) hr4 (by omega) (by omega)) ?_
  rintro _ ⟨v2, p5, rfl, hv20, hv21, hr5⟩
  simp only [evt]
  refine tot_cond (fun _ => ?_) (fun _ => ?_)
  ·refine tot_call (t_l6Names (by omega) hr5 (by omega)) ?_
   rintro _ ⟨s2, p6, rfl, hs2, hr6⟩
   simp only [evt]
   refine tot_call (t_l1Mutate (by omega) (by omega) hr6 (by omega)) ?_
   rintro _ ⟨w, p7, rfl, hw, hr7⟩
   simp only [evt]
   exact tot_some ⟨w, s2, rfl, by omega, hs2⟩
  ·refine tot_call (t_l1Mutate (by omega) (by omega) hr5 (by omega)) ?_
   rintro _ ⟨w, p7, rfl, hw, hr7⟩
   simp only [evt]
   exact tot_some ⟨w, s, rfl, by omega, hsz⟩
theorem ns_comm (a b names : List UInt8) : nsX a b names = nsX b a names := by
 unfold nsX
 have : T.beq (psX a names).1 (psX b names).1 = T.beq (psX b names).1 (psX a names).1 := by
  rw [Bool.eq_iff_iff, T.beq_iff, T.beq_iff]; exact eq_comm
 rw [this]
 cases (psX a names).2 <;> cases (psX b names).2 <;> rfl
theorem ns_refl (a names : List UInt8) : nsX a a names = (psX a names).2 := by
 unfold nsX
 rw [(T.beq_iff _ _).2 rfl]
 cases (psX a names).2 <;> rfl
end Go.Proofs.YtnogehmgpfpjmaaGreatDoor
end
section
namespace Go.Proofs.YtnogehmgpfpjmaaGreatDoor
open Go.ChangeShapes Go.WideShapes Go.ChangeAt Go.RowKit
open Go.ChangeMaps (open_string shut_string)
open Go.Dk
theorem own : ownKnob Tryz.prog.godebug = none := by kernel_rfl
theorem laidOut : laidOutB Tryz.prog = true := by kernel_rfl
section
variable {H : Type} {enc : TypeId × Value → H} {P : Program} {W : World} {sp : Nat → Bool} {hd : Bool}
end
end Go.Proofs.YtnogehmgpfpjmaaGreatDoor
end
section
namespace Go.Proofs.YtnogehmgpfpjmaaGreatDoor
open Go.ChangeShapes Go.WideShapes Go.ChangeAt Go.RowKit
open Go.ChangeMaps (open_string shut_string)
open Go.Dk
theorem change_and_shaped {H : Type} {enc : TypeId × Value → H} {a : Assume} {C : Checked} {os : Os} {f : FuncId} {fn : Func} {s : ChangeSpec} {conds : List PathCond} {apart fresh handsOn again : Bool} {X : World → Array Value → Prop}
   (hX : ∀ (w w' : World) (args : Array Value), w.heap = w'.heap → X w args → X w' args)
   (own : ownKnob C.prog.godebug = none) (started : os.Started) (noInit : C.prog.inits.idxOf? f = none) (hfn : C.prog.funcs[f]? = some fn)
   (witness : ∃ (w : World) (tape : Tape) (i : Input), w.os = os ∧ (w.forCall tape i).Shaped C.prog ∧ i.vars = [] ∧ Input.okWide C.prog (w.forCall tape i) .any w.heap.size f i ∧
    ((s.pre enc C.prog fn conds apart (w.forCall tape i).memory i.args ∧ X (w.forCall tape i).memory i.args) ∧ sizedMet enc C.prog fn (OpenSpec.ofChange s) apart (w.forCall tape i).memory i.args) ∧ a.holds C.prog (lone (Frame.enter C.prog f i.args .normal) [] (w.forCall tape i)))
   (contract : ∀ (W : World) (base : Nat) (args : Array Value) (ds gs : List (DataW H)) (before : List MemPlace),
    (∀ (j : Nat) t v, fn.params[j]? = some t → args[j]? = some v → Value.okWide C.prog W .any base t v) →
    DataW.Whole enc C.prog fn.params.toList s.vars apart W args.toList ds gs before → X W args → W.ShapedOpen C.prog →
    Calls C.prog f args W fun e W' => ∃ v, e = .returned v ∧ s.post enc C.prog fn apart fresh handsOn again W args v W') :
   ReturnsInHanded a C os f .any (fun w args => (s.pre enc C.prog fn conds apart w args ∧ X w args) ∧ sizedMet enc C.prog fn (OpenSpec.ofChange s) apart w args) (s.post enc C.prog fn apart fresh handsOn again) := by
 refine returnsInHanded_of_calls own started noInit witness ?_
 intro w tape i _ hsh _ hok hpre hholds
 obtain ⟨_, _, _, fn', hfn', _, _, _, _, hval⟩ := hok
 have e : fn' = fn := Option.some.inj (hfn'.symm.trans hfn)
 subst e
 obtain ⟨⟨⟨ds, gs, before, hw, hc⟩, hx⟩, hz⟩ := hpre
 have hw' := DataW.Whole.of_heap (w' := w.forCall tape i) (by rfl) hw
 refine (contract (w.forCall tape i) w.heap.size i.args ds gs before hval hw' (hX _ _ _ (by rfl) hx) hsh).mono fun e W' ⟨v, he, hp⟩ => ?_
 subst he
 exact ChangeSpec.post_blind hp
theorem trod_iface {H : Type} {enc : TypeId × Value → H} {P : Program} {w : World} {base : Nat} {sp : Nat → Bool} {held : Bool} {fuel : Nat} {t : TypeId} {cs : List Value} {x : DataW H × List MemPlace} {ms : Array (String × TypeId)}
   (ht : P.underlying t = some (.interface ms)) (h : DataW.trod enc P w base sp held fuel t cs = some x) : ∃ ev, cs = [ev] ∧ (ev = .nilIface ∨ ∃ u v, ev = .iface u v) := by
 cases fuel with
 | zero => simp [DataW.trod] at h
 | succ n =>
  unfold DataW.trod at h
  rw [ht] at h
  split at h <;> simp_all
theorem iface_of_reads {P : Program} {W : World} {name : String} {d : DataW Unit} {g : Nat} {t : TypeId} {ms : Array (String × TypeId)} (h : Lib.VarReads P W name d)
   (hg : P.globalNamed name = some g) (hty : (P.globals[g]?).map (·.type) = some t) (ht : P.underlying t = some (.interface ms)) : ∃ ev, W.cell? ⟨g, 0, none⟩ = some ev ∧ (ev = .nilIface ∨ ∃ t p, ev = .iface t p) := by
 obtain ⟨g', t', cs, fuel, p, hg', ht', hv, hd⟩ := h
 obtain rfl := Option.some.inj (hg.symm.trans hg')
 obtain rfl := Option.some.inj (hty.symm.trans ht')
 obtain ⟨ev, hc, he⟩ := trod_iface ht hd
 refine ⟨ev, ?_, he⟩
 have := World.var?_cell hg hv 0
 rw [Array.eq_one_of_toList hc] at this
 simpa using this
theorem heap_of_reads {P : Program} {W : World} {name : String} {k : IntKind} {zs : List Int} {g : Nat} {t e : TypeId} {n : Nat} (h : Lib.VarReads P W name (Lib.tabData k zs))
   (hg : P.globalNamed name = some g) (hty : (P.globals[g]?).map (·.type) = some t) (ht : P.underlying t = some (.array n e)) (he : P.underlying e = some (.int k)) (hce : P.cellsOf e = 1) (hct : P.cellsOf t = n) :
   ∃ t p, W.heap[g]? = some (.cells (zs.map fun z => Value.int k z).toArray t p) := by
 obtain ⟨g', t', cs, fuel, p, hg', ht', hv, hd⟩ := h
 obtain rfl := Option.some.inj (hg.symm.trans hg')
 obtain rfl := Option.some.inj (hty.symm.trans ht')
 have hcs := Lib.cells_of_tab ht he hce hct hd
 unfold World.var? at hv
 rw [hg, Option.bind_some] at hv
 split at hv
 ·rename_i cs' t2 p2 hh
  cases hv
  exact ⟨t2, p2, by rw [hh, ← hcs]⟩
 ·cases hv
theorem size_of_shapedOpen {P : Program} {w : World} {g : Nat} {r : Array Value × TypeId} (h : w.ShapedOpen P) (hg : g < P.globals.size) (h0 : ((begin P (fun _ _ => 0) default).world.heap[g]?).bind Obj.row? = some r) : g < w.heap.size := by
 obtain ⟨cs, hh, _⟩ := h.1 g r.1 r.2 hg h0
 exact (Array.getElem?_eq_some_iff.1 hh).1
theorem gl_of {W : World} {l : List (String × DataW Unit)} (hL : laidMet Tryz.prog l W) (hs : W.ShapedOpen Tryz.prog)
   (h1 : ("internal/strconv.uint64pow10", Rows.laid_internal_strconv_uint64pow10) ∈ l) (h2 : ("strconv.ErrSyntax", Rows.laid_strconv_ErrSyntax) ∈ l) (h3 : ("strconv.ErrRange", Rows.laid_strconv_ErrRange) ∈ l) : Go.Ab.GL noneZ W := by
 refine ⟨W, ⟨?_, ?_, ?_, ?_⟩, fun g hg => ⟨fun h => h.elim, ?_, rfl⟩⟩
 ·exact cell_of_shapedOpen_int (t := 3) (zero := #[.int .i64 0]) hs (of_decide_eq_true (by kernel_rfl)) (by kernel_rfl) rfl (by kernel_rfl) (by kernel_rfl) Tryz.underlying3
 ·exact iface_of_reads (Lib.laidMet.reads hL h2) (by kernel_rfl) (by kernel_rfl) Tryz.underlying105
 ·exact iface_of_reads (Lib.laidMet.reads hL h3) (by kernel_rfl) (by kernel_rfl) Tryz.underlying105
 ·exact heap_of_reads (k := .u64) (zs := ((List.range 20).map fun i => ((10 ^ i : Nat) : Int))) (Lib.laidMet.reads hL h1) (by kernel_rfl) (by kernel_rfl) Tryz.underlying141 Tryz.underlying127 (by kernel_rfl) (by kernel_rfl)
 ·have hb : ∀ g, g < Go.Ab.GLK → g < Tryz.prog.globals.size ∧ (((begin Tryz.prog (fun _ _ => 0) default).world.heap[g]?).bind Obj.row?).isSome = true := by
    have : ((List.range Go.Ab.GLK).all fun g => decide (g < Tryz.prog.globals.size) && (((begin Tryz.prog (fun _ _ => 0) default).world.heap[g]?).bind Obj.row?).isSome) = true := by kernel_rfl
    intro g hg
    have := List.all_eq_true.1 this g (List.mem_range.2 hg)
    simpa using this
  obtain ⟨h1, h2⟩ := hb g hg
  obtain ⟨r, hr⟩ := Option.isSome_iff_exists.1 h2
  exact size_of_shapedOpen hs h1 hr
end Go.Proofs.YtnogehmgpfpjmaaGreatDoor
end
