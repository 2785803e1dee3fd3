/- The functions of names, in the abstract run. -/
import Derived.Test.YtgabipdafaimhaaEvR
import Derived.Test.YtgabipdafaimhaaNam
set_option linter.unusedVariables false
set_option linter.unusedSimpArgs false
namespace Go.Proofs.Ytgabipdafaimhaa
open Go Go.Ab Go.Dk
theorem e_isLetter (c : UInt8) : Ev 26 [.one (.int .u8 (c.toNat : Int))] [] ([.one (.bool (letterB c))], []) := .of 0 fun n _ => by
  rw [E_impl_isLetter]
  unfold letterB
  by_cases h : (97 : Int) ≤ c.toNat <;> simp only [h, decide_true, decide_false, cond_true, cond_false, Bool.true_and, Bool.false_and]
theorem e_l6Letter (c : UInt8) : Ev 24 [.one (.int .u8 (c.toNat : Int))] [] ([.one (.bool (letterB c))], []) := .of 0 fun n _ => by
  rw [E_spec_l6Letter]
  unfold letterB
  by_cases h : (97 : Int) ≤ c.toNat <;> simp only [h, decide_true, decide_false, cond_true, cond_false, Bool.true_and, Bool.false_and]
theorem e_IndexByte (s : ByteArray) (c : UInt8) : Ev 27 [.one (.str s), .one (.int .u8 (c.toNat : Int))] [] ([.one (.int .i64 (idxB s c))], []) := .of 1 fun n hn => by
  obtain ⟨m, rfl⟩ : ∃ m, n = m + 1 := ⟨n - 1, by omega⟩
  rw [E_strings_IndexByte, E_stringslite_IndexByte]
  simp only [byte_ok, byte_rt, Option.bind_some, rInt, rBool, rStr, rTs, rIs, rIss, rSs, rBs, rTerm, rOwnT, rOwn, rPtr, nilV, nilO, objC, dropC, intC, boolC, strC, tsC, isC, issC, ssC, bsC, anyC, nilC, arrTsC, arrIsC, arrIssC, arrSsC, arrBsC, ik_self, nb_self, cond_true, cond_false]
theorem find_loop (s : ByteArray) (c : UInt8) (hs : s.size ≤ 1048577) (n : Nat) : ∀ k d, k < d → k ≤ s.size → L_spec_l6Find_0 n d s (c.toNat : Int) ((k : Int) - 1) = some ([.one (.int .i64 (findFrom s c k))], [])
  | k, 0, h, _ => by omega
  | 0, d + 1, _, _ => by
    rw [L_spec_l6Find_0_eq]
    simp [findFrom]
  | k + 1, d + 1, h, hk => by
    rw [L_spec_l6Find_0_eq]
    have e : ((k + 1 : Nat) : Int) - 1 = k := by omega
    have w1 : IntKind.i64.wrap ((k : Int) - 1) = (k : Int) - 1 := wrap64 (by omega)
    have w2 : IntKind.i64.wrap ((s.size : Int) - 1) = (s.size : Int) - 1 := wrap64 (by omega)
    have w3 : IntKind.i64.wrap ((s.size : Int) - 1 - k) = (s.size : Int) - 1 - k := wrap64 (by omega)
    simp only [e, w1, w2, w3, cond_dec, if_pos (show (0 : Int) ≤ k by omega), decide_eq_true (show (0 : Int) ≤ k by omega), decide_eq_true (show (k : Int) < s.size by omega), Bool.and_self, cond_true, Int.toNat_natCast, byte_eq, findFrom, find_loop s c hs n k d (by omega) (by omega)]
    split <;> rfl
theorem e_l6Find (s : ByteArray) (c : UInt8) (hs : s.size ≤ 1048577) : Ev 25 [.one (.str s), .one (.int .u8 (c.toNat : Int))] [] ([.one (.int .i64 (findB s c))], []) := .of (s.size + 1) fun n hn => by
  rw [E_spec_l6Find, wrap64 (by omega), find_loop s c hs n s.size n (by omega) (Nat.le_refl _)]; rfl
theorem byteU (s : ByteArray) (i : Nat) : 0 ≤ ((byteAt s i).toNat : Int) := by omega
theorem nvI_loop (s : ByteArray) (hs : s.size ≤ 1048577) (n : Nat) (h1 : ∀ c : UInt8, FF n 26 [.one (.int .u8 (c.toNat : Int))] [] = some ([.one (.bool (letterB c))], []))
    (h2 : ∀ (s : ByteArray) (c : UInt8), FF n 27 [.one (.str s), .one (.int .u8 (c.toNat : Int))] [] = some ([.one (.int .i64 (idxB s c))], [])) :
    ∀ g d k, g < d → k + g = s.size → (∀ j, j < k → nvAt s j = true) → L_impl_NamesValid_0 n d s (s.size : Int) (k : Int) = some ([.one (.bool (nvB s))], [])
  | g, 0, k, h, _, _ => by omega
  | 0, d + 1, k, _, hk, ha => by
    rw [L_impl_NamesValid_0_eq, nvB_all (fun j hj => ha j (by omega))]
    simp only [cond_dec, if_neg (show ¬ (k : Int) < s.size by omega)]
    have : decide ((s.size : Int) ≤ 20) = decide (s.size ≤ 20) := decide_eq_decide.2 (by omega)
    rw [this]
  | g + 1, d + 1, k, h, hk, ha => by
    rw [L_impl_NamesValid_0_eq]
    have w1 : IntKind.i64.wrap ((k : Int) + 1) = ((k + 1 : Nat) : Int) := wrap64 (by omega)
    simp only [w1, inB, cond_dec, h1, h2, Option.bind_some, rInt, rBool, rStr, rTs, rIs, rIss, rSs, rBs, rTerm, rOwnT, rOwn, rPtr, nilV, nilO, objC, dropC, intC, boolC, strC, tsC, isC, issC, ssC, bsC, anyC, nilC, arrTsC, arrIsC, arrIssC, arrSsC, arrBsC, ik_self, nb_self, cond_true, cond_false, if_pos (show (k : Int) < s.size by omega), decide_eq_true (show (0 : Int) ≤ k by omega), decide_eq_true (show (k : Int) < s.size by omega), decide_eq_true (show (k : Int) ≤ s.size by omega), decide_eq_true (Int.le_refl 0), Bool.and_self, Int.toNat_natCast, Int.toNat_zero]
    have hx := idxB_neg (s.extract 0 k) (byteAt s k)
    rw [extract_take s k (by omega)] at hx
    cases hl : letterB (byteAt s k) with
    | false => rw [nvB_false (i := k) (by omega) (by unfold nvAt; rw [hl]; rfl)]; rfl
    | true =>
      simp only [Bool.not_true, cond_false]
      by_cases h0 : 0 ≤ idxB (s.extract 0 k) (byteAt s k)
      · rw [if_pos h0, nvB_false (i := k) (by omega)]
        unfold nvAt
        have : byteAt s k ∈ s.data.toList.take k := by
          refine Classical.byContradiction fun hc => ?_
          have := hx.2 hc; omega
        simp [this]
      · rw [if_neg h0]
        refine nvI_loop s hs n h1 h2 g d (k + 1) (by omega) (by omega) fun j hj => ?_
        rcases Nat.lt_succ_iff_lt_or_eq.1 hj with hj | rfl
        · exact ha j hj
        · unfold nvAt
          have hn : byteAt s j ∉ s.data.toList.take j := hx.1 (by omega)
          rw [hl]; simp only [Bool.true_and, Bool.not_eq_true']
          rw [← Bool.not_eq_true, List.contains_iff_mem]; exact hn
theorem nvS_loop (s : ByteArray) (hs : s.size ≤ 1048577) (n : Nat) (h1 : ∀ c : UInt8, FF n 24 [.one (.int .u8 (c.toNat : Int))] [] = some ([.one (.bool (letterB c))], []))
    (h2 : ∀ (t : ByteArray) (c : UInt8), t.size ≤ s.size → FF n 25 [.one (.str t), .one (.int .u8 (c.toNat : Int))] [] = some ([.one (.int .i64 (findB t c))], [])) :
    ∀ g d k, g < d → k + g = s.size → (∀ j, j < k → nvAt s j = true) → L_spec_NamesValid_0 n d s (k : Int) = some ([.one (.bool (nvB s))], [])
  | g, 0, k, h, _, _ => by omega
  | 0, d + 1, k, _, hk, ha => by
    rw [L_spec_NamesValid_0_eq, nvB_all (fun j hj => ha j (by omega))]
    simp only [cond_dec, if_neg (show ¬ (k : Int) < s.size by omega)]
    have : decide ((s.size : Int) ≤ 20) = decide (s.size ≤ 20) := decide_eq_decide.2 (by omega)
    rw [this]
  | g + 1, d + 1, k, h, hk, ha => by
    rw [L_spec_NamesValid_0_eq]
    have w1 : IntKind.i64.wrap ((k : Int) + 1) = ((k + 1 : Nat) : Int) := wrap64 (by omega)
    simp only [w1, inB, cond_dec, h1, h2 _ _ (show (s.extract 0 k).size ≤ s.size by rw [ByteArray.size_extract]; omega), Option.bind_some, rInt, rBool, rStr, rTs, rIs, rIss, rSs, rBs, rTerm, rOwnT, rOwn, rPtr, nilV, nilO, objC, dropC, intC, boolC, strC, tsC, isC, issC, ssC, bsC, anyC, nilC, arrTsC, arrIsC, arrIssC, arrSsC, arrBsC, ik_self, nb_self, cond_true, cond_false, if_pos (show (k : Int) < s.size by omega), decide_eq_true (show (0 : Int) ≤ k by omega), decide_eq_true (show (k : Int) < s.size by omega), decide_eq_true (show (k : Int) ≤ s.size by omega), decide_eq_true (Int.le_refl 0), Bool.and_self, Int.toNat_natCast, Int.toNat_zero]
    have hx := findB_neg (s.extract 0 k) (byteAt s k)
    rw [extract_take s k (by omega)] at hx
    cases hl : letterB (byteAt s k) with
    | false => rw [nvB_false (i := k) (by omega) (by unfold nvAt; rw [hl]; rfl)]; rfl
    | true =>
      simp only [Bool.not_true, cond_false]
      by_cases h0 : 0 ≤ findB (s.extract 0 k) (byteAt s k)
      · rw [if_pos h0, nvB_false (i := k) (by omega)]
        unfold nvAt
        have : byteAt s k ∈ s.data.toList.take k := by
          refine Classical.byContradiction fun hc => ?_
          have := hx.2 hc; omega
        simp [this]
      · rw [if_neg h0]
        refine nvS_loop s hs n h1 h2 g d (k + 1) (by omega) (by omega) fun j hj => ?_
        rcases Nat.lt_succ_iff_lt_or_eq.1 hj with hj | rfl
        · exact ha j hj
        · unfold nvAt
          have hn : byteAt s j ∉ s.data.toList.take j := hx.1 (by omega)
          rw [hl]; simp only [Bool.true_and, Bool.not_eq_true']
          rw [← Bool.not_eq_true, List.contains_iff_mem]; exact hn
theorem e_NamesValidI (s : ByteArray) (hs : s.size ≤ 1048577) : Ev 10 [.one (.str s)] [] ([.one (.bool (nvB s))], []) := .of (s.size + 2) fun n hn => by
  rw [E_impl_NamesValid]
  obtain ⟨m, rfl⟩ : ∃ m, n = m + 2 := ⟨n - 2, by omega⟩
  refine nvI_loop s hs _ (fun c => ?_) (fun s c => ?_) s.size _ 0 (by omega) (by omega) (fun j hj => by omega)
  · rw [E_impl_isLetter]
    unfold letterB
    by_cases h : (97 : Int) ≤ c.toNat <;> simp only [h, decide_true, decide_false, cond_true, cond_false, Bool.true_and, Bool.false_and]
  · rw [E_strings_IndexByte, E_stringslite_IndexByte]
    simp only [byte_ok, byte_rt, Option.bind_some, rInt, rBool, rStr, rTs, rIs, rIss, rSs, rBs, rTerm, rOwnT, rOwn, rPtr, nilV, nilO, objC, dropC, intC, boolC, strC, tsC, isC, issC, ssC, bsC, anyC, nilC, arrTsC, arrIsC, arrIssC, arrSsC, arrBsC, ik_self, nb_self, cond_true, cond_false]
theorem e_NamesValidS (s : ByteArray) (hs : s.size ≤ 1048577) : Ev 9 [.one (.str s)] [] ([.one (.bool (nvB s))], []) := .of (s.size + 2) fun n hn => by
  rw [E_spec_NamesValid]
  obtain ⟨m, rfl⟩ : ∃ m, n = m + 1 := ⟨n - 1, by omega⟩
  refine nvS_loop s hs _ (fun c => ?_) (fun t c ht => ?_) s.size _ 0 (by omega) (by omega) (fun j hj => by omega)
  · rw [E_spec_l6Letter]
    unfold letterB
    by_cases h : (97 : Int) ≤ c.toNat <;> simp only [h, decide_true, decide_false, cond_true, cond_false, Bool.true_and, Bool.false_and]
  · rw [E_spec_l6Find, wrap64 (by omega), find_loop t c (by omega) m t.size m (by omega) (Nat.le_refl _)]; rfl
theorem freshI_loop (s : ByteArray) (n : Nat) (h2 : ∀ (s : ByteArray) (c : UInt8), FF n 27 [.one (.str s), .one (.int .u8 (c.toNat : Int))] [] = some ([.one (.int .i64 (idxB s c))], [])) :
    ∀ g d (k : Nat), g < d → k + g = 122 → 97 ≤ k → L_impl_fresh_0 n d s (k : Int) = some ([.one (.str ⟨#[freshFrom s g k]⟩)], [])
  | g, 0, k, h, _, _ => by omega
  | 0, d + 1, k, _, hk, _ => by
    rw [L_impl_fresh_0_eq]
    simp only [cond_dec, if_neg (show ¬ (k : Int) < 122 by omega)]; rfl
  | g + 1, d + 1, k, h, hk, h97 => by
    rw [L_impl_fresh_0_eq]
    have hv : (k : Int) = ((UInt8.ofNat k).toNat : Int) := by rw [UInt8.toNat_ofNat_of_lt' (by simp [UInt8.size]; omega)]
    have hi := h2 s (UInt8.ofNat k)
    rw [← hv] at hi
    have w1 : IntKind.u8.wrap ((k : Int) + 1) = ((k + 1 : Nat) : Int) := by
      rw [IntKind.wrap]; simp [IntKind.signed, IntKind.bits]; omega
    simp only [cond_dec, if_pos (show (k : Int) < 122 by omega), hi, Option.bind_some, rInt, rBool, rStr, rTs, rIs, rIss, rSs, rBs, rTerm, rOwnT, rOwn, rPtr, nilV, nilO, objC, dropC, intC, boolC, strC, tsC, isC, issC, ssC, bsC, anyC, nilC, arrTsC, arrIsC, arrIssC, arrSsC, arrBsC, ik_self, nb_self, cond_true, cond_false, decide_eq_true (show (0 : Int) ≤ k by omega), decide_eq_true (show (k : Int) ≤ 255 by omega), Bool.and_self, Int.toNat_natCast, w1]
    have hx := idxB_neg s (UInt8.ofNat k)
    unfold freshFrom
    by_cases h0 : idxB s (UInt8.ofNat k) < 0
    · rw [if_pos h0, if_pos (hx.1 h0)]
    · rw [if_neg h0, if_neg (fun h => h0 (hx.2 h))]
      exact freshI_loop s n h2 g d (k + 1) (by omega) (by omega) (by omega)
theorem e_fresh (s : ByteArray) : Ev 29 [.one (.str s)] [] ([.one (.str ⟨#[freshB s]⟩)], []) := .of 28 fun n hn => by
  rw [E_impl_fresh]
  obtain ⟨m, rfl⟩ : ∃ m, n = m + 2 := ⟨n - 2, by omega⟩
  refine freshI_loop s _ (fun s c => ?_) 25 _ 97 (by omega) (by omega) (by omega)
  rw [E_strings_IndexByte, E_stringslite_IndexByte]
  simp only [byte_ok, byte_rt, Option.bind_some, rInt, rBool, rStr, rTs, rIs, rIss, rSs, rBs, rTerm, rOwnT, rOwn, rPtr, nilV, nilO, objC, dropC, intC, boolC, strC, tsC, isC, issC, ssC, bsC, anyC, nilC, arrTsC, arrIsC, arrIssC, arrSsC, arrBsC, ik_self, nb_self, cond_true, cond_false]
theorem freshS_loop (s : ByteArray) (n : Nat) (h2 : ∀ c : UInt8, FF n 25 [.one (.str s), .one (.int .u8 (c.toNat : Int))] [] = some ([.one (.int .i64 (findB s c))], [])) :
    ∀ g d (k : Nat), g < d → k + g = 123 → 97 ≤ k → L_spec_l6Fresh_0 n d s (k : Int) = some ([.one (.int .u8 ((freshSFrom s g k).toNat : Int))], [])
  | g, 0, k, h, _, _ => by omega
  | 0, d + 1, k, _, hk, _ => by
    rw [L_spec_l6Fresh_0_eq]
    simp only [cond_dec, if_neg (show ¬ (k : Int) ≤ 122 by omega)]; rfl
  | g + 1, d + 1, k, h, hk, h97 => by
    rw [L_spec_l6Fresh_0_eq]
    have hv : (k : Int) = ((UInt8.ofNat k).toNat : Int) := by rw [UInt8.toNat_ofNat_of_lt' (by simp [UInt8.size]; omega)]
    have hi := h2 (UInt8.ofNat k)
    rw [← hv] at hi
    have w1 : IntKind.u8.wrap ((k : Int) + 1) = ((k + 1 : Nat) : Int) := by
      rw [IntKind.wrap]; simp [IntKind.signed, IntKind.bits]; omega
    simp only [cond_dec, if_pos (show (k : Int) ≤ 122 by omega), hi, Option.bind_some, rInt, rBool, rStr, rTs, rIs, rIss, rSs, rBs, rTerm, rOwnT, rOwn, rPtr, nilV, nilO, objC, dropC, intC, boolC, strC, tsC, isC, issC, ssC, bsC, anyC, nilC, arrTsC, arrIsC, arrIssC, arrSsC, arrBsC, ik_self, nb_self, cond_true, cond_false, w1]
    have hx := findB_neg s (UInt8.ofNat k)
    unfold freshSFrom
    by_cases h0 : findB s (UInt8.ofNat k) < 0
    · rw [if_pos h0, if_pos (hx.1 h0), ← hv]
    · rw [if_neg h0, if_neg (fun h => h0 (hx.2 h))]
      exact freshS_loop s n h2 g d (k + 1) (by omega) (by omega) (by omega)
theorem e_l6Fresh (s : ByteArray) (hs : s.size ≤ 1048577) : Ev 28 [.one (.str s)] [] ([.one (.int .u8 ((freshSFrom s 26 97).toNat : Int))], []) := .of (s.size + 30) fun n hn => by
  rw [E_spec_l6Fresh]
  obtain ⟨m, rfl⟩ : ∃ m, n = m + 1 := ⟨n - 1, by omega⟩
  refine freshS_loop s _ (fun c => ?_) 26 _ 97 (by omega) (by omega) (by omega)
  rw [E_spec_l6Find, wrap64 (by omega), find_loop s c hs m s.size m (by omega) (Nat.le_refl _)]; rfl
/-- The name that FreshName answers. -/
def freshN (s : ByteArray) : ByteArray := if nvB s then ⟨#[freshB s]⟩ else ⟨#[]⟩
theorem e_FreshNameI (s : ByteArray) (hs : s.size ≤ 1048577) : Ev 12 [.one (.str s)] [] ([.one (.str (freshN s)), .one (.bool (nvB s))], []) := by
  obtain ⟨N, h1⟩ := e_NamesValidI s hs
  obtain ⟨M, h2⟩ := e_fresh s
  refine .of (N + M) fun n hn => ?_
  rw [E_impl_FreshName, h1 n (by omega)]
  unfold freshN
  cases h : nvB s <;> simp only [Option.bind_some, rInt, rBool, rStr, rTs, rIs, rIss, rSs, rBs, rTerm, rOwnT, rOwn, rPtr, nilV, nilO, objC, dropC, intC, boolC, strC, tsC, isC, issC, ssC, bsC, anyC, nilC, arrTsC, arrIsC, arrIssC, arrSsC, arrBsC, ik_self, nb_self, cond_true, cond_false, Bool.not_true, Bool.not_false, h2 n (by omega)] <;> rfl
theorem e_FreshNameS (s : ByteArray) (hs : s.size ≤ 1048577) : Ev 11 [.one (.str s)] [] ([.one (.str (freshN s)), .one (.bool (nvB s))], []) := by
  obtain ⟨N, h1⟩ := e_NamesValidS s hs
  obtain ⟨M, h2⟩ := e_l6Fresh s hs
  refine .of (N + M) fun n hn => ?_
  rw [E_spec_FreshName, h1 n (by omega)]
  unfold freshN
  cases h : nvB s
  · simp only [Option.bind_some, rInt, rBool, rStr, rTs, rIs, rIss, rSs, rBs, rTerm, rOwnT, rOwn, rPtr, nilV, nilO, objC, dropC, intC, boolC, strC, tsC, isC, issC, ssC, bsC, anyC, nilC, arrTsC, arrIsC, arrIssC, arrSsC, arrBsC, ik_self, nb_self, cond_true, cond_false, Bool.not_true, Bool.not_false]; rfl
  · simp only [Option.bind_some, rInt, rBool, rStr, rTs, rIs, rIss, rSs, rBs, rTerm, rOwnT, rOwn, rPtr, nilV, nilO, objC, dropC, intC, boolC, strC, tsC, isC, issC, ssC, bsC, anyC, nilC, arrTsC, arrIsC, arrIssC, arrSsC, arrBsC, ik_self, nb_self, cond_true, cond_false, Bool.not_true, Bool.not_false, h2 n (by omega), byte_ok, byte_rt, fresh_eq s (nvB_size h)]; rfl
end Go.Proofs.Ytgabipdafaimhaa
