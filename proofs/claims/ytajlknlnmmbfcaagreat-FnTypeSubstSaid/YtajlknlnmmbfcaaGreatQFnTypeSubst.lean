/- FnTypeSubst: for every code, the law that substitution keeps types answers true. No condition. -/
import Derived.Test.YtajlknlnmmbfcaaGreatK01
import Derived.Test.YtajlknlnmmbfcaaGreatK02
import Derived.Test.YtajlknlnmmbfcaaGreatK03
import Derived.Test.YtajlknlnmmbfcaaGreatK04
import Derived.Test.YtajlknlnmmbfcaaGreatK05
import Derived.Test.YtajlknlnmmbfcaaGreatK06
import Derived.Test.YtajlknlnmmbfcaaGreatK07
import Derived.Test.YtajlknlnmmbfcaaGreatK08
import Derived.WalkKit
import Derived.ProofKit
import Derived.OpenShut
import Derived.ShutString
import Derived.ChangeOld
import Derived.Below
set_option linter.unusedVariables false
set_option linter.unusedSimpArgs false
section
namespace Go.Proofs.YtajlknlnmmbfcaaGreat
open Go Go.Ab Go.Dk
theorem me (n : Nat) (v0 v1 : List UInt8) : FF (n + 1) 15 [.one (.fr (.bs v0)), .one (.fr (.bs v1))] [] =
 (cond (decide (1048576 < (v0.length : Int)))
 (some ([.one (.bool true)], []))
 (cond (decide (1048576 < (v1.length : Int)))
 (some ([.one (.bool true)], []))
 ((FF n 19 [.one (.fr (.bs v0))] []).bind fun x0 =>
 (rTs x0.1 fun x1 x2 =>
 (ah x2 fun x3 x4 =>
 (ai x4 (aj x0.2
 ((FF n 25 [.one (.fr (.ts x1)), .agg [.int .i64 x3.k, .int .i64 x3.n, .fr (.ts x3.kids)]] []).bind fun x5 =>
 (ah x5.1 fun x6 x7 =>
 (aw .i64 x7 fun x8 x9 =>
 (ai x9 (aj x5.2
 ((FF n 40 [.one (.fr (.ts x1)), .agg [.int .i64 x3.k, .int .i64 x3.n, .fr (.ts x3.kids)]] []).bind fun x10 =>
 (ah x10.1 fun x11 x12 =>
 (aw .i64 x12 fun x13 x14 =>
 (ai x14 (aj x10.2
 (cond (!decide (x8 = x13))
 (cond (decide (x8 = x13))
 ((FF n 22 [.agg [.int .i64 x6.k, .int .i64 x6.n, .fr (.ts x6.kids)], .agg [.int .i64 x11.k, .int .i64 x11.n, .fr (.ts x11.kids)]] []).bind fun x15 =>
 (ar x15.1 fun x16 x17 =>
 (ai x17 (aj x15.2
 (some ([.one (.bool x16)], []))))))
 (some ([.one (.bool false)], [])))
 ((FF n 22 [.agg [.int .i64 x6.k, .int .i64 x6.n, .fr (.ts x6.kids)], .agg [.int .i64 x11.k, .int .i64 x11.n, .fr (.ts x11.kids)]] []).bind fun x15 =>
 (ar x15.1 fun x16 x17 =>
 (ai x17 (aj x15.2
 (cond (!x16)
 (cond (decide (x8 = x13))
 ((FF n 22 [.agg [.int .i64 x6.k, .int .i64 x6.n, .fr (.ts x6.kids)], .agg [.int .i64 x11.k, .int .i64 x11.n, .fr (.ts x11.kids)]] []).bind fun x18 =>
 (ar x18.1 fun x19 x20 =>
 (ai x20 (aj x18.2
 (some ([.one (.bool x19)], []))))))
 (some ([.one (.bool false)], [])))
 (cond (!decide (x8 = 0))
 (cond (decide (x8 = x13))
 ((FF n 22 [.agg [.int .i64 x6.k, .int .i64 x6.n, .fr (.ts x6.kids)], .agg [.int .i64 x11.k, .int .i64 x11.n, .fr (.ts x11.kids)]] []).bind fun x18 =>
 (ar x18.1 fun x19 x20 =>
 (ai x20 (aj x18.2
 (some ([.one (.bool x19)], []))))))
 (some ([.one (.bool false)], [])))
 (cond (decide ((x1.length : Int) = 0))
 (cond (decide (x8 = x13))
 ((FF n 22 [.agg [.int .i64 x6.k, .int .i64 x6.n, .fr (.ts x6.kids)], .agg [.int .i64 x11.k, .int .i64 x11.n, .fr (.ts x11.kids)]] []).bind fun x18 =>
 (ar x18.1 fun x19 x20 =>
 (ai x20 (aj x18.2
 (some ([.one (.bool x19)], []))))))
 (some ([.one (.bool false)], [])))
 (cond (decide ((Int.tmod (v1.length : Int) 2) = 0))
 (cond (decide (0 < (IntKind.i64.wrap ((x1.length : Int) - 1))))
 (cond (decide ((IntKind.i64.wrap ((x1.length : Int) - 1)) = 0))
 none
 (cond (Go.Ab.inB 0 (IntKind.i64.wrap ((x1.length : Int) - 1)) x1.length)
 (cond (decide (0 ≤ (IntKind.i64.wrap ((x1.length : Int) - 1))))
 (x1[((IntKind.i64.wrap ((x1.length : Int) - 1)) : Int).toNat]?.bind fun x18 =>
 ((FF n 23 [.one (.fr (.ts ((x1.take ((IntKind.i64.wrap ((x1.length : Int) - 1)) : Int).toNat).drop (0 : Int).toNat))), .agg [.int .i64 1, .int .i64 (Int.tmod (v1.length : Int) (IntKind.i64.wrap ((x1.length : Int) - 1))), .fr (.ts [])], .agg [.int .i64 x18.k, .int .i64 x18.n, .fr (.ts x18.kids)]] []).bind fun x19 =>
 (aw .i64 x19.1 fun x20 x21 =>
 (ai x21 (aj x19.2
 (cond (!decide (x20 = 0))
 (some ([.one (.bool true)], []))
 ((FF n 24 [.agg [.int .i64 x3.k, .int .i64 x3.n, .fr (.ts x3.kids)], .agg [.int .i64 1, .int .i64 (Int.tmod (v1.length : Int) (IntKind.i64.wrap ((x1.length : Int) - 1))), .fr (.ts [])]] []).bind fun x22 =>
 (ah x22.1 fun x23 x24 =>
 (ar x24 fun x25 x26 =>
 (ai x26 (aj x22.2
 ((FF n 24 [.agg [.int .i64 x6.k, .int .i64 x6.n, .fr (.ts x6.kids)], .agg [.int .i64 1, .int .i64 (Int.tmod (v1.length : Int) (IntKind.i64.wrap ((x1.length : Int) - 1))), .fr (.ts [])]] []).bind fun x27 =>
 (ah x27.1 fun x28 x29 =>
 (ar x29 fun x30 x31 =>
 (ai x31 (aj x27.2
 (cond (Go.Ab.inB 0 (IntKind.i64.wrap ((x1.length : Int) - 1)) x1.length)
 ((FF n 25 [.one (.fr (.ts ((x1.take ((IntKind.i64.wrap ((x1.length : Int) - 1)) : Int).toNat).drop (0 : Int).toNat))), .agg [.int .i64 x23.k, .int .i64 x23.n, .fr (.ts x23.kids)]] []).bind fun x32 =>
 (ah x32.1 fun x33 x34 =>
 (aw .i64 x34 fun x35 x36 =>
 (ai x36 (aj x32.2
 (cond (!x25)
 (some ([.one (.bool true)], []))
 (cond (!x30)
 (some ([.one (.bool true)], []))
 (cond (decide (x35 = 2))
 (some ([.one (.bool true)], []))
 (cond (decide (x35 = 0))
 ((FF n 26 [.agg [.int .i64 x33.k, .int .i64 x33.n, .fr (.ts x33.kids)], .agg [.int .i64 x28.k, .int .i64 x28.n, .fr (.ts x28.kids)], .one (.int .i64 200)] []).bind fun x37 =>
 (aw .i64 x37.1 fun x38 x39 =>
 (ai x39 (aj x37.2
 (some ([.one (.bool (!decide (x38 = 2)))], []))))))
 (some ([.one (.bool false)], [])))))))))))
 none)))))))))))))))))
 none)
 none))
 (cond (Go.Ab.inB 0 (IntKind.i64.wrap ((x1.length : Int) - 1)) x1.length)
 (cond (decide (0 ≤ (IntKind.i64.wrap ((x1.length : Int) - 1))))
 (x1[((IntKind.i64.wrap ((x1.length : Int) - 1)) : Int).toNat]?.bind fun x18 =>
 ((FF n 23 [.one (.fr (.ts ((x1.take ((IntKind.i64.wrap ((x1.length : Int) - 1)) : Int).toNat).drop (0 : Int).toNat))), .agg [.int .i64 7, .int .i64 0, .fr (.ts [])], .agg [.int .i64 x18.k, .int .i64 x18.n, .fr (.ts x18.kids)]] []).bind fun x19 =>
 (aw .i64 x19.1 fun x20 x21 =>
 (ai x21 (aj x19.2
 (cond (!decide (x20 = 0))
 (some ([.one (.bool true)], []))
 ((FF n 24 [.agg [.int .i64 x3.k, .int .i64 x3.n, .fr (.ts x3.kids)], .agg [.int .i64 7, .int .i64 0, .fr (.ts [])]] []).bind fun x22 =>
 (ah x22.1 fun x23 x24 =>
 (ar x24 fun x25 x26 =>
 (ai x26 (aj x22.2
 ((FF n 24 [.agg [.int .i64 x6.k, .int .i64 x6.n, .fr (.ts x6.kids)], .agg [.int .i64 7, .int .i64 0, .fr (.ts [])]] []).bind fun x27 =>
 (ah x27.1 fun x28 x29 =>
 (ar x29 fun x30 x31 =>
 (ai x31 (aj x27.2
 (cond (Go.Ab.inB 0 (IntKind.i64.wrap ((x1.length : Int) - 1)) x1.length)
 ((FF n 25 [.one (.fr (.ts ((x1.take ((IntKind.i64.wrap ((x1.length : Int) - 1)) : Int).toNat).drop (0 : Int).toNat))), .agg [.int .i64 x23.k, .int .i64 x23.n, .fr (.ts x23.kids)]] []).bind fun x32 =>
 (ah x32.1 fun x33 x34 =>
 (aw .i64 x34 fun x35 x36 =>
 (ai x36 (aj x32.2
 (cond (!x25)
 (some ([.one (.bool true)], []))
 (cond (!x30)
 (some ([.one (.bool true)], []))
 (cond (decide (x35 = 2))
 (some ([.one (.bool true)], []))
 (cond (decide (x35 = 0))
 ((FF n 26 [.agg [.int .i64 x33.k, .int .i64 x33.n, .fr (.ts x33.kids)], .agg [.int .i64 x28.k, .int .i64 x28.n, .fr (.ts x28.kids)], .one (.int .i64 200)] []).bind fun x37 =>
 (aw .i64 x37.1 fun x38 x39 =>
 (ai x39 (aj x37.2
 (some ([.one (.bool (!decide (x38 = 2)))], []))))))
 (some ([.one (.bool false)], [])))))))))))
 none)))))))))))))))))
 none)
 none))
 (cond (Go.Ab.inB 0 (IntKind.i64.wrap ((x1.length : Int) - 1)) x1.length)
 (cond (decide (0 ≤ (IntKind.i64.wrap ((x1.length : Int) - 1))))
 (x1[((IntKind.i64.wrap ((x1.length : Int) - 1)) : Int).toNat]?.bind fun x18 =>
 ((FF n 23 [.one (.fr (.ts ((x1.take ((IntKind.i64.wrap ((x1.length : Int) - 1)) : Int).toNat).drop (0 : Int).toNat))), .agg [.int .i64 7, .int .i64 0, .fr (.ts [])], .agg [.int .i64 x18.k, .int .i64 x18.n, .fr (.ts x18.kids)]] []).bind fun x19 =>
 (aw .i64 x19.1 fun x20 x21 =>
 (ai x21 (aj x19.2
 (cond (!decide (x20 = 0))
 (some ([.one (.bool true)], []))
 ((FF n 24 [.agg [.int .i64 x3.k, .int .i64 x3.n, .fr (.ts x3.kids)], .agg [.int .i64 7, .int .i64 0, .fr (.ts [])]] []).bind fun x22 =>
 (ah x22.1 fun x23 x24 =>
 (ar x24 fun x25 x26 =>
 (ai x26 (aj x22.2
 ((FF n 24 [.agg [.int .i64 x6.k, .int .i64 x6.n, .fr (.ts x6.kids)], .agg [.int .i64 7, .int .i64 0, .fr (.ts [])]] []).bind fun x27 =>
 (ah x27.1 fun x28 x29 =>
 (ar x29 fun x30 x31 =>
 (ai x31 (aj x27.2
 (cond (Go.Ab.inB 0 (IntKind.i64.wrap ((x1.length : Int) - 1)) x1.length)
 ((FF n 25 [.one (.fr (.ts ((x1.take ((IntKind.i64.wrap ((x1.length : Int) - 1)) : Int).toNat).drop (0 : Int).toNat))), .agg [.int .i64 x23.k, .int .i64 x23.n, .fr (.ts x23.kids)]] []).bind fun x32 =>
 (ah x32.1 fun x33 x34 =>
 (aw .i64 x34 fun x35 x36 =>
 (ai x36 (aj x32.2
 (cond (!x25)
 (some ([.one (.bool true)], []))
 (cond (!x30)
 (some ([.one (.bool true)], []))
 (cond (decide (x35 = 2))
 (some ([.one (.bool true)], []))
 (cond (decide (x35 = 0))
 ((FF n 26 [.agg [.int .i64 x33.k, .int .i64 x33.n, .fr (.ts x33.kids)], .agg [.int .i64 x28.k, .int .i64 x28.n, .fr (.ts x28.kids)], .one (.int .i64 200)] []).bind fun x37 =>
 (aw .i64 x37.1 fun x38 x39 =>
 (ai x39 (aj x37.2
 (some ([.one (.bool (!decide (x38 = 2)))], []))))))
 (some ([.one (.bool false)], [])))))))))))
 none)))))))))))))))))
 none)
 none))))))))))))))))))))))))))) := by kernel_rfl
end Go.Proofs.YtajlknlnmmbfcaaGreat
end
section
namespace Go.Proofs.YtajlknlnmmbfcaaGreat
open Go.ChangeShapes Go.WideShapes Go.ChangeAt Go.RowKit
open Go.ChangeMaps (open_string shut_string)
open Go.Ab Go.Dk
open Tm (tI cc lvr Wf)
theorem IH {B : Tm} {G : List Tm} (hG : ∀ A ∈ B :: G, vdM A = true) (h8 : (B :: G).length ≤ 8) (c : ∃ X, cc O (tI O) (B :: G) = .ok X) : (∀ A ∈ G, vdM A = true) ∧ G.length ≤ 8 ∧ ∃ X, cc O (tI O) G = .ok X := by
 obtain ⟨X, c⟩ := c
 exact ⟨fun A hA => hG A (List.mem_cons_of_mem _ hA), by simp only [List.length_cons] at h8; omega, (Tm.EK c).1⟩
theorem CA {B : Tm} {G : List Tm} {m A u : Tm} (k : Ok (B :: G) m A) (vu : vdM u = true) (h : ctI (cx G) (of u) (of B) = 0) (vm : vdM (m.inst u) = true) : (itI (cx G) (of (m.inst u))).2 = 2 ∨ ∃ C, itI (cx G) (of (m.inst u)) = (of C, 0) ∧ vdM C = true ∧ sU (of C) (of (A.inst u)) 200 ≠ 2 := by
 obtain ⟨hG, h8, c⟩ := IH k.hG k.h8 k.c
 have w : Wf G := by cases k.w with | cons w h => exact w
 obtain ⟨_, _, _, _, _, tu, _⟩ := DK hG h8 c w vu (k.hG B List.mem_cons_self) h
 rcases kh hG h8 c w vm (k.ty.inst tu) with h | ⟨C, h, _, vC, _, cv⟩
 ·exact .inl h
 ·exact .inr ⟨C, h, vC, lz cv⟩
theorem uo (l l1 : List UInt8) : Ev 15 [.one (.fr (.bs l)), .one (.fr (.bs l1))] [] ([.one (.bool true)], []) := by
 have hB := iV
 have hS := lq
 refine dn (C := BB + BS + 20) fun n hn => ?_
 refine aK (C := BB + BS + 19) hn fun n hn _ => ?_
 rw [me]
 refine al (fun _ => ⟨_, rfl, rfl⟩) (fun _ => ?_)
 refine al (fun _ => ⟨_, rfl, rfl⟩) (fun hl1 => ?_)
 refine af (bo (by omega) l) ?_
 rintro _ ⟨g, t, rfl, ⟨ht, hd⟩, hg, hgl⟩
 have hgz : ∀ u ∈ g, u.size ≤ 4000000 := fun u hu => by have := ae (hg u hu); omega
 have zi := gl (l := g) (t := t)
 simp only [evt]
 rw [aZ (by omega) (by omega) hgz (by omega)]
 simp only [evt]
 rw [cQ (by omega) (by omega) hgz (by omega), iy hd]
 simp only [evt]
 have s1 := eW (n := n) (a := (itI g t).1) (by omega) (by omega)
 by_cases h0 : (itI g t).2 = 0
 ·obtain ⟨G, m, A, rfl, rfl, e, k⟩ := gp h0
  rw [e] at h0 s1 ⊢
  have zm := ae k.v
  have zA := ae k.vA
  cases G with
  | nil =>
   refine af s1 ?_
   rintro _ rfl
   simp only [evt, show decide (((cx []).length : Int) = 0) = true from rfl]
   refine af s1 ?_
   rintro _ rfl
   simp only [evt]
   exact aq rfl
  | cons B G =>
   have hx := qy G B
   have hl := bO G
   have h8 := k.h8
   simp only [List.length_cons] at h8
   have vB := k.hG B List.mem_cons_self
   have zB := ae (t := of B) vB
   have hlen : ((cx (B :: G)).length : Int) = ((cx G).length : Int) + 1 := by rw [hx]; simp
   have hw : IntKind.i64.wrap (((cx (B :: G)).length : Int) - 1) = ((cx G).length : Int) := by rw [hlen, wrap64 (by omega)]; omega
   have hin : Go.Ab.inB 0 ((cx G).length : Int) (cx (B :: G)).length = true := by rw [hx]; simp [Go.Ab.inB]; omega
   have hget : (cx (B :: G))[((cx G).length : Int).toNat]? = some (of B) := by rw [hx, Int.toNat_natCast]; simp
   have htake : List.drop (Int.toNat 0) (List.take ((cx G).length : Int).toNat (cx (B :: G))) = cx G := by rw [hx, Int.toNat_natCast]; simp
   have hgz2 : ∀ u ∈ cx G, u.size ≤ 4000000 := fun u hu => hgz u (by rw [hx]; exact List.mem_append_left _ hu)
   have hle : decide ((0 : Int) ≤ ((cx G).length : Int)) = true := decide_eq_true (by omega)
   have hne : decide (((cx (B :: G)).length : Int) = 0) = false := decide_eq_false (by omega)
   refine af s1 ?_
   rintro _ rfl
   simp only [evt, hne, hw, hin, hget, htake, hle, Option.bind_some, decide_true, Bool.not_true]
   have fin : ∀ u : Tm, vdM u = true → Tot ((FF n 23 [tms (cx G), tm (of u), tm (of B)] []).bind fun x19 => aw .i64 x19.1 fun x20 x21 => ai x21 (aj x19.2 (cond (!decide (x20 = 0)) (some ([.one (.bool true)], [])) ((FF n 24 [tm (of m), tm (of u)] []).bind fun x22 => ah x22.1 fun x23 x24 => ar x24 fun x25 x26 => ai x26 (aj x22.2 ((FF n 24 [tm (of A), tm (of u)] []).bind fun x27 => ah x27.1 fun x28 x29 => ar x29 fun x30 x31 => ai x31 (aj x27.2 ((FF n 25 [tms (cx G), .agg [.int .i64 x23.k, .int .i64 x23.n, .fr (.ts x23.kids)]] []).bind fun x32 => ah x32.1 fun x33 x34 => aw .i64 x34 fun x35 x36 => ai x36 (aj x32.2 (cond (!x25) (some ([.one (.bool true)], [])) (cond (!x30) (some ([.one (.bool true)], [])) (cond (decide (x35 = 2)) (some ([.one (.bool true)], [])) (cond (decide (x35 = 0)) ((FF n 26 [.agg [.int .i64 x33.k, .int .i64 x33.n, .fr (.ts x33.kids)], .agg [.int .i64 x28.k, .int .i64 x28.n, .fr (.ts x28.kids)], nt 200] []).bind fun x37 => aw .i64 x37.1 fun x38 x39 => ai x39 (aj x37.2 (some ([.one (.bool (!decide (x38 = 2)))], [])))) (some ([.one (.bool false)], []))))))))))))))) (fun r => r = ([bl true], [])) := by
    intro u vu
    have zu := ae (t := of u) vu
    rw [lC (n := n) (l := cx G) (t := of u) (u := of B) (by omega) (by omega) hgz2 (by omega) (by omega)]
    simp only [evt]
    refine al (fun _ => aq rfl) (fun h1 => ?_)
    have h1 : ctI (cx G) (of u) (of B) = 0 := by simpa using h1
    have i1 := iS (n := n) (b := m) (u := u) (by omega) k.v vu
    have i2 := iS (n := n) (b := A) (u := u) (by omega) k.vA vu
    have zo : ∀ t : T, (okT t).size ≤ 400 := fun t => by
     unfold okT; split
     ·exact ae ‹_›
     ·decide
    have z1 := zo (of (m.inst u))
    have z2 := zo (of (A.inst u))
    have g1 := aZ (n := n) (l := cx G) (t := okT (of (m.inst u))) (by omega) (by omega) hgz2 (by omega)
    rw [i1]
    simp only [evt]
    rw [i2]
    simp only [evt]
    rw [g1]
    simp only [evt]
    cases vm : vdM (m.inst u) with
    | false => exact aq rfl
    | true =>
     cases vA : vdM (A.inst u) with
     | false => exact aq rfl
     | true =>
      rw [cE (show ak (of (m.inst u)) = true from vm), cE (show ak (of (A.inst u)) = true from vA)]
      rcases CA k vu h1 vm with h2 | ⟨C, h2, vC, nc⟩
      ·rw [h2]; exact aq rfl
      ·rw [h2]
       have zC := ae (t := of C) vC
       have zA2 := ae (t := of (A.inst u)) vA
       have cv := nH (bZ (n := n) (a := of C) (b := of (A.inst u)) (f := 200) (by omega) (by omega) (by omega))
       refine af cv ?_
       rintro _ rfl
       simp only [evt]
       exact aq (by simp [nc])
   have v0 : vdM .zero = true := by decide +kernel
   have f0 := fin .zero v0
   simp only [of, tm, cL, cP, ay] at f0
   refine al (fun h2 => ?_) (fun h2 => f0)
   refine al (fun h3 => ?_) (fun h3 => f0)
   have h3 : 0 < (cx G).length := by simpa using h3
   rw [decide_eq_false (show ¬ ((cx G).length : Int) = 0 by omega), cond_false]
   obtain ⟨i, hi, ei⟩ : ∃ i : Nat, i < (cx G).length ∧ Int.tmod (l1.length : Int) ((cx G).length : Int) = i :=
    ⟨l1.length % (cx G).length, Nat.mod_lt _ h3, by rw [← Int.ofNat_tmod]⟩
   rw [ei]
   have fi := fin (.var i) (Tm.Gm (d := 12) (show i < 12 by omega) trivial (by simp [Tm.ht]) (by omega))
   simp only [of, tm, cL, cP, ay] at fi
   exact fi
 ·repeat' (first | (simp (disch := omega) only [wrap64]; done) | (simp (disch := omega) only [wrap64]) | (with_reducible refine al (fun hq => ?_) (fun hq => ?_) <;> (try simp (disch := omega) only [wrap64] at hq) <;> (try simp only [decide_eq_true_eq, decide_eq_false_iff_not, Bool.not_eq_true', Bool.not_eq_false', Bool.and_eq_true, Bool.and_eq_false_iff, inB, Bool.not_true, Bool.not_false] at hq) <;> try (exfalso; omega; done)) | (with_reducible refine af (s1) ?_; rintro _ rfl; simp only [evt]) | ((with_reducible refine aq ?_); (exact rfl)))
set_option maxRecDepth 100000 in
theorem l9 (os : Os) (started : os.Started) (H : Type) (enc : TypeId × Value → H) :
   ReturnsInHanded {} Tryz.checked os 15 .any (Rows.fnTypeSubstSpec.pre6 enc Tryz.prog Tryz.f15 Rows.fnTypeSubstRow.domain false) (Rows.fnTypeSubstSpec.post enc Tryz.prog Tryz.f15 false true false false) := by
 refine returnsInHanded_of_change (C := Tryz.checked) own started (by kernel_rfl) Tryz.func15
  (ChangeSpec.witness6 (enc := enc) (C := Tryz.checked) false ⟨#[], #[.slice none 0 0, .slice none 0 0], []⟩ 8 (by kernel_rfl) (by kernel_rfl) (by kernel_rfl) (by kernel_rfl)) ?_
 intro W base args ds gs before hval0 hW hcnd _
 have hval : ∀ (j : Nat) t v, Tryz.f15.params[j]? = some t → args[j]? = some v → Value.okWide Tryz.prog W .any base t v := hval0
 have hW' := hW
 obtain ⟨p, q, hA0, hV, rfl, hfz, hnd⟩ := hW
 have hA : DataW.TrodAll enc Tryz.prog W 0 (fun _ => true) true Tryz.f15.params.toList args.toList ds p := hA0
 rw [Tryz.params15] at hA hval
 obtain ⟨v0, vs0, d0, ds0, p0, q0, hargs, rfl, rfl, h0, r0⟩ := trodAll_cons hA
 obtain ⟨v1, vs1, d1, ds1, p1, q1, rfl, rfl, rfl, h1, r1⟩ := trodAll_cons r0
 obtain ⟨rfl, rfl, rfl⟩ := trodAll_nil r1
 obtain rfl : args = #[v0, v1] := by cases args; simp_all
 obtain ⟨rfl, rfl⟩ := trodVars_none hV
 have k0 := h0
 have lt0 : ∀ x ∈ p0, x.block < W.heap.size := by obtain ⟨m, hm⟩ := k0; exact DataW.trod_lt m _ _ _ hm
 obtain ⟨l0, w0⟩ := bM Tryz.underlying22 Tryz.underlying5 (by kernel_rfl) (hval 0 22 v0 rfl rfl) h0
 have k1 := h1
 have lt1 : ∀ x ∈ p1, x.block < W.heap.size := by obtain ⟨m, hm⟩ := k1; exact DataW.trod_lt m _ _ _ hm
 obtain ⟨l1, w1⟩ := bM Tryz.underlying22 Tryz.underlying5 (by kernel_rfl) (hval 1 22 v1 rfl rfl) h1
 clear hA0 hval0
 refine (iP Tryz.func15 (by kernel_rfl) (args := [.one (.fr (.bs l0)), .one (.fr (.bs l1))]) (ax.cons (b9 w0) (ax.cons (b9 w1) (ax.nil))) (uo l0 l1)).mono fun e W' ⟨he, hg⟩ => ?_
 have bel := hg.below
 subst he
 exact ⟨_, rfl, _, _, _, [], _, [], hW', trodAll_mk1 (shut_bool Tryz.underlying4 _), (trodAll_cons_mk (Below.trod laidOut (by kernel_rfl) (of_decide_eq_true (by kernel_rfl)) k0 bel lt0) (trodAll_cons_mk (Below.trod laidOut (by kernel_rfl) (of_decide_eq_true (by kernel_rfl)) k1 bel lt1) trodAll_mk0)), rfl, bel.frame _, fun h => by cases h⟩
theorem FnTypeSubst_holds : Rows.FnTypeSubstSaid :=
 OpenClaim.holds_of_wide 15 Tryz.f15 rfl rfl rfl rfl rfl rfl rfl ⟨rfl, rfl, rfl, rfl, rfl⟩ rfl rfl rfl rfl rfl (by kernel_rfl) Tryz.func15 (by unfold joinedFacts; rw [iJ, iI, fe]; kernel_rfl)
  (of_decide_eq_true (by kernel_rfl)) (by unfold Func.isWrapper; first | (rw [if_pos (by decide +kernel)]; kernel_rfl) | (rw [if_neg (by decide +kernel)]; exact ⟨rfl, rfl⟩))
  (fun os started H enc _ => l9 os started H enc)
#print axioms FnTypeSubst_holds
end Go.Proofs.YtajlknlnmmbfcaaGreat
end
