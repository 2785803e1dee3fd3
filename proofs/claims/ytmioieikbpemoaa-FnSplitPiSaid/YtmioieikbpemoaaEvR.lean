/- The reader of drawn arguments, in the abstract run. -/
import Derived.Test.YtmioieikbpemoaaEv
set_option linter.unusedVariables false
set_option linter.unusedSimpArgs false
namespace Go.Proofs.Ytmioieikbpemoaa
open Go Go.Ab Go.Dk
theorem xor_bd {a b : Int} (ha : 0 ≤ a ∧ a < 4611686018427387904) (hb : 0 ≤ b ∧ b < 4611686018427387904) : 0 ≤ IntKind.i64.wrap (BitVec.ofInt IntKind.i64.bits a ^^^ BitVec.ofInt IntKind.i64.bits b).toNat := by
  obtain ⟨m, rfl⟩ : ∃ m : Nat, a = m := ⟨a.toNat, by omega⟩
  obtain ⟨n, rfl⟩ : ∃ n : Nat, b = n := ⟨b.toNat, by omega⟩
  have hm : m < 2 ^ 62 := by omega
  have hn : n < 2 ^ 62 := by omega
  have hx : m ^^^ n < 2 ^ 62 := Nat.xor_lt_two_pow hm hn
  have e : (BitVec.ofInt 64 (m : Int) ^^^ BitVec.ofInt 64 (n : Int)).toNat = m ^^^ n := by
    rw [BitVec.toNat_xor]
    have h1 : (BitVec.ofInt 64 (m : Int)).toNat = m := by simp; omega
    have h2 : (BitVec.ofInt 64 (n : Int)).toNat = n := by simp; omega
    rw [h1, h2]
  show 0 ≤ IntKind.i64.wrap ((BitVec.ofInt 64 (m : Int) ^^^ BitVec.ofInt 64 (n : Int)).toNat : Int)
  rw [e, IntWalk.i64_in _ (by omega)]
  omega
/-- A reader: its bytes, and how far it has read. -/
abbrev rdr (l : List UInt8) (p : Int) : AObj := .cells [.fr (.bs l), .int .i64 p]
/-- The reader's state is in order. -/
def RdOk (l : List UInt8) (p m : Int) : Prop := l.length ≤ 2000 ∧ 0 ≤ p ∧ p ≤ m
theorem RdOk.mono {l : List UInt8} {p m m' : Int} (h : RdOk l p m) (hm : m ≤ m') : RdOk l p m' := ⟨h.1, h.2.1, by have := h.2.2; omega⟩
theorem tmod_bd {a b : Int} (ha : 0 ≤ a) (hb : 0 < b) : 0 ≤ a.tmod b ∧ a.tmod b < b := by
  rw [Int.tmod_eq_emod_of_nonneg ha]
  exact ⟨Int.emod_nonneg _ (by omega), Int.emod_lt_of_pos _ hb⟩
theorem tdiv_bd {a b : Int} (ha : 0 ≤ a) (hb : 0 < b) : 0 ≤ a.tdiv b ∧ a.tdiv b ≤ a := by
  rw [Int.tdiv_eq_ediv_of_nonneg ha]
  exact ⟨Int.ediv_nonneg ha (by omega), Int.ediv_le_self _ ha⟩
theorem get_lt {l : List UInt8} {i : Int} (h0 : 0 ≤ i) (h1 : i < l.length) : ∃ c, l[i.toNat]? = some c := by
  have : i.toNat < l.length := by omega
  exact ⟨l[i.toNat], List.getElem?_eq_getElem this⟩
/-- From fuel C on, f answers r. -/
def EvA (C : Nat) (f : FuncId) (args : List V1) (h : List AObj) (r : List V1 × List AObj) : Prop := ∀ n, C ≤ n → FF n f args h = some r
theorem EvA.ev {C f args h r} (k : EvA C f args h r) : Ev f args h r := ⟨C, k⟩
theorem EvA.of {f args h r} (C : Nat) (hh : ∀ n, C ≤ n → FF (n + 1) f args h = some r) : EvA (C + 1) f args h r := fun n hn => by obtain ⟨m, rfl⟩ : ∃ m, n = m + 1 := ⟨n - 1, by omega⟩; exact hh m (by omega)
theorem s_pick {l : List UInt8} {p m n : Int} (h : RdOk l p m) (hm : m ≤ 1099511627776) (hn : n ≤ 2147483648) :
    ∃ v, (0 ≤ v ∧ (0 < n → v < n) ∧ (n < 1 → v = 0)) ∧ RdOk l (p + 1) (m + 1) ∧ EvA 1 61 [.one (.ptr 0 0), .one (.int .i64 n)] [rdr l p] ([.one (.int .i64 v)], [rdr l (p + 1)]) := by
  obtain ⟨hl, h0, hp⟩ := h
  have hr : RdOk l (p + 1) (m + 1) := ⟨hl, by omega, by omega⟩
  have w1 : IntKind.i64.wrap (p + 1) = p + 1 := wrap64 (by omega)
  have w2 : IntKind.i64.wrap (p + 1 - 1) = p := by rw [wrap64 (by omega)]; omega
  by_cases hn1 : n < 1
  · refine ⟨0, ⟨by omega, by omega, by omega⟩, hr, EvA.of 0 fun k _ => ?_⟩
    rw [E_spec_l19Rd_pick]
    simp only [cond_dec, if_pos hn1, w1]
  · by_cases hl0 : (l.length : Int) = 0
    · refine ⟨0, ⟨by omega, by omega, by omega⟩, hr, EvA.of 0 fun k _ => ?_⟩
      rw [E_spec_l19Rd_pick]
      simp only [cond_dec, if_neg hn1, if_pos hl0, w1]
    · have hlp : 0 < (l.length : Int) := by omega
      by_cases hk : p < l.length
      · obtain ⟨c, hc⟩ := get_lt h0 hk
        have hb := byte_bd c
        have ht := tmod_bd hb.1 (show 0 < n by omega)
        refine ⟨Int.tmod c.toNat n, ⟨ht.1, fun _ => ht.2, by omega⟩, hr, EvA.of 0 fun k _ => ?_⟩
        rw [E_spec_l19Rd_pick]
        simp only [cond_dec, if_neg hn1, if_neg hl0, w1, w2, if_pos hk, if_pos h0, hc, Option.bind_some, wrapB, if_neg (show ¬ n = 0 by omega)]
      · have t1 := tmod_bd h0 hlp
        obtain ⟨c, hc⟩ := get_lt t1.1 t1.2
        have w3 : IntKind.i64.wrap (p * 7) = p * 7 := wrap64 (by omega)
        have w4 : IntKind.i64.wrap (p * 7 + 3) = p * 7 + 3 := wrap64 (by omega)
        have t2 := tmod_bd (show 0 ≤ p * 7 + 3 by omega) hlp
        obtain ⟨d, hd⟩ := get_lt t2.1 t2.2
        have hb := byte_bd c
        have hb' := byte_bd d
        have t3 := tdiv_bd h0 hlp
        have w5 : IntKind.i64.wrap ((c.toNat : Int) * 131) = c.toNat * 131 := wrap64 (by omega)
        have w6 : IntKind.i64.wrap ((d.toNat : Int) * 1117) = d.toNat * 1117 := wrap64 (by omega)
        have w7 : IntKind.i64.wrap ((c.toNat : Int) * 131 + d.toNat * 1117) = c.toNat * 131 + d.toNat * 1117 := wrap64 (by omega)
        have w8 : IntKind.i64.wrap (p * 29) = p * 29 := wrap64 (by omega)
        have w9 : IntKind.i64.wrap ((c.toNat : Int) * 131 + d.toNat * 1117 + p * 29) = c.toNat * 131 + d.toNat * 1117 + p * 29 := wrap64 (by omega)
        have wa : IntKind.i64.wrap (p.tdiv l.length) = p.tdiv l.length := wrap64 (by omega)
        have wb : IntKind.i64.wrap (p.tdiv l.length * 53) = p.tdiv l.length * 53 := wrap64 (by omega)
        have wc : IntKind.i64.wrap ((c.toNat : Int) * 131 + d.toNat * 1117 + p * 29 + p.tdiv l.length * 53) = c.toNat * 131 + d.toNat * 1117 + p * 29 + p.tdiv l.length * 53 := wrap64 (by omega)
        have t4 := tdiv_bd (show 0 ≤ (c.toNat : Int) * 131 + d.toNat * 1117 + p * 29 + p.tdiv l.length * 53 by omega) (show (0 : Int) < 64 by omega)
        have wd : IntKind.i64.wrap (Int.tdiv ((c.toNat : Int) * 131 + d.toNat * 1117 + p * 29 + p.tdiv l.length * 53) 64) = Int.tdiv ((c.toNat : Int) * 131 + d.toNat * 1117 + p * 29 + p.tdiv l.length * 53) 64 := wrap64 (by omega)
        have hx := xor_bd (a := (c.toNat : Int) * 131 + d.toNat * 1117 + p * 29 + p.tdiv l.length * 53) (b := Int.tdiv ((c.toNat : Int) * 131 + d.toNat * 1117 + p * 29 + p.tdiv l.length * 53) 64) (by omega) (by omega)
        have ht := tmod_bd hx (show 0 < n by omega)
        refine ⟨_, ⟨ht.1, fun _ => ht.2, by omega⟩, hr, EvA.of 0 fun k _ => ?_⟩
        rw [E_spec_l19Rd_pick]
        simp only [cond_dec, if_neg hn1, if_neg hl0, w1, w2, if_neg hk, if_pos t1.1, hc, Option.bind_some, wrapB, w3, w4, if_pos t2.1, hd, if_neg (show ¬ n = 0 by omega), w5, w6, w7, w8, w9, wa, wb, wc, wd]
theorem s_of {l : List UInt8} {p m : Int} (h : RdOk l p m) (hm : m ≤ 1099511627776) {ss : List ByteArray} (hs : ss ≠ []) (hs2 : ss.length ≤ 2147483648) :
    ∃ s ∈ ss, RdOk l (p + 1) (m + 1) ∧ EvA 2 82 [.one (.ptr 0 0), .one (.fr (.ss ss))] [rdr l p] ([.one (.str s)], [rdr l (p + 1)]) := by
  obtain ⟨v, ⟨v0, v1, _⟩, hr, hN⟩ := s_pick h hm (n := (ss.length : Int)) (by omega)
  have hpos := List.length_pos_iff.2 hs
  have hv := v1 (by omega)
  have hlt : v.toNat < ss.length := by omega
  refine ⟨ss[v.toNat], List.getElem_mem hlt, hr, EvA.of 1 fun n hn => ?_⟩
  rw [E_spec_l19Rd_of, hN n hn]
  simp only [Option.bind_some, c_rInt, c_rBool, c_rStr, c_rTs, c_rIs, c_rIss, c_rSs, c_rBs, c_rTerm, c_rOwnT, c_rOwn, c_rPtr, c_nilV, c_nilO, c_objC, c_dropC, c_intC, c_boolC, c_strC, c_tsC, c_isC, c_issC, c_ssC, c_bsC, c_anyC, c_nilC, c_arrTs, c_arrIs, c_arrIss, c_arrSs, c_arrBs, ik_self, nb_self, cond_true, cond_false, cond_dec, if_pos v0, List.getElem?_eq_getElem hlt]
theorem s_num {l : List UInt8} {p m : Int} (h : RdOk l p m) (hm : m ≤ 1099511627776) {ss : List Int} (hs : ss ≠ []) (hs2 : ss.length ≤ 2147483648) :
    ∃ s ∈ ss, RdOk l (p + 1) (m + 1) ∧ EvA 2 46 [.one (.ptr 0 0), .one (.fr (.is ss))] [rdr l p] ([.one (.int .i64 s)], [rdr l (p + 1)]) := by
  obtain ⟨v, ⟨v0, v1, _⟩, hr, hN⟩ := s_pick h hm (n := (ss.length : Int)) (by omega)
  have hpos := List.length_pos_iff.2 hs
  have hv := v1 (by omega)
  have hlt : v.toNat < ss.length := by omega
  refine ⟨ss[v.toNat], List.getElem_mem hlt, hr, EvA.of 1 fun n hn => ?_⟩
  rw [E_spec_l19Rd_num, hN n hn]
  simp only [Option.bind_some, c_rInt, c_rBool, c_rStr, c_rTs, c_rIs, c_rIss, c_rSs, c_rBs, c_rTerm, c_rOwnT, c_rOwn, c_rPtr, c_nilV, c_nilO, c_objC, c_dropC, c_intC, c_boolC, c_strC, c_tsC, c_isC, c_issC, c_ssC, c_bsC, c_anyC, c_nilC, c_arrTs, c_arrIs, c_arrIss, c_arrSs, c_arrBs, ik_self, nb_self, cond_true, cond_false, cond_dec, if_pos v0, List.getElem?_eq_getElem hlt]
theorem s_open (l : List UInt8) : ∃ l', RdOk l' 0 0 ∧ EvA 1 43 [.one (.fr (.bs l))] [] ([.one (.ptr 0 0)], [rdr l' 0]) := by
  by_cases hl : 2000 < (l.length : Int)
  · refine ⟨(l.take (2000 : Int).toNat).drop (0 : Int).toNat, ⟨by simp; omega, by omega, by omega⟩, EvA.of 0 fun n _ => ?_⟩
    · rw [E_spec_l19Open]
      simp only [cond_dec, if_pos hl, inB, Int.le_refl, decide_true, Bool.true_and, show (0 : Int) ≤ 2000 from by omega, if_pos (show (2000 : Int) ≤ l.length by omega)]
  · refine ⟨l, ⟨by omega, by omega, by omega⟩, EvA.of 0 fun n _ => ?_⟩
    rw [E_spec_l19Open]
    simp only [cond_dec, if_neg hl]
theorem d_pick {l : List UInt8} {p m n : Int} (h : RdOk l p m) (hm : m ≤ 1099511627776) (hn : n ≤ 2147483648) :
    ∃ v, (0 ≤ v ∧ (0 < n → v < n) ∧ (n < 1 → v = 0)) ∧ RdOk l (p + 1) (m + 1) ∧ Ev 61 [.one (.ptr 0 0), .one (.int .i64 n)] [rdr l p] ([.one (.int .i64 v)], [rdr l (p + 1)]) := by
  obtain ⟨v, h1, h2, h3⟩ := s_pick h hm hn
  exact ⟨v, h1, h2, h3.ev⟩
theorem d_of {l : List UInt8} {p m : Int} (h : RdOk l p m) (hm : m ≤ 1099511627776) {ss : List ByteArray} (hs : ss ≠ []) (hs2 : ss.length ≤ 2147483648) :
    ∃ s ∈ ss, RdOk l (p + 1) (m + 1) ∧ Ev 82 [.one (.ptr 0 0), .one (.fr (.ss ss))] [rdr l p] ([.one (.str s)], [rdr l (p + 1)]) := by
  obtain ⟨v, h1, h2, h3⟩ := s_of h hm hs hs2
  exact ⟨v, h1, h2, h3.ev⟩
theorem d_open (l : List UInt8) : ∃ l', RdOk l' 0 0 ∧ Ev 43 [.one (.fr (.bs l))] [] ([.one (.ptr 0 0)], [rdr l' 0]) := by
  obtain ⟨v, h1, h2⟩ := s_open l
  exact ⟨v, h1, h2.ev⟩
end Go.Proofs.Ytmioieikbpemoaa
