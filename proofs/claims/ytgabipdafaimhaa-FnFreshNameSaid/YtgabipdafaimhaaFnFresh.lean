/- The drawn names, and what the laws of fresh names answer. -/
import Derived.Test.YtgabipdafaimhaaEvN
set_option linter.unusedVariables false
set_option linter.unusedSimpArgs false
namespace Go.Proofs.Ytgabipdafaimhaa
open Go Go.Ab Go.Dk
theorem hprim : PrimsOK Try.prog SS := fun f g args out h => by cases h
def namesL : List ByteArray := [bytesOf [], bytesOf [120], bytesOf [120, 121], bytesOf [97, 98], bytesOf [102, 120, 121], bytesOf [97, 98, 99, 100, 101, 102, 103, 104, 105, 106, 107, 108, 109, 110, 111, 112, 113, 114, 115, 116], bytesOf [97, 97], bytesOf [88], bytesOf [97, 98, 99, 100, 101, 102, 103, 104, 105, 106, 107, 108, 109, 110, 111, 112, 113, 114, 115, 116, 117]]
theorem d_l6Names {l : List UInt8} {p m : Int} (h : RdOk l p m) (hm : m ≤ 1099511627776) : ∃ s ∈ namesL, RdOk l (p + 1) (m + 1) ∧ Ev 33 [.one (.ptr 0 0)] [rdr l p] ([.one (.str s)], [rdr l (p + 1)]) := by
  obtain ⟨s, hs, hr, N, h1⟩ := d_of h hm (ss := namesL) (by simp [namesL]) (by decide)
  refine ⟨s, hs, hr, .of N fun n hn => ?_⟩
  rw [E_spec_l6Names]
  have := h1 n hn
  unfold namesL at this
  rw [this]
  simp only [Option.bind_some, rInt, rBool, rStr, rTs, rIs, rIss, rSs, rBs, rTerm, rOwnT, rOwn, rPtr, nilV, nilO, objC, dropC, intC, boolC, strC, tsC, isC, issC, ssC, bsC, anyC, nilC, arrTsC, arrIsC, arrIssC, arrSsC, arrBsC, ik_self, nb_self, cond_true, cond_false]
theorem d_FreshName (l : List UInt8) : ∃ s ∈ namesL, Ev 18 [.one (.fr (.bs l))] [] ([.one (.str s)], []) := by
  obtain ⟨l', hr, N, h1⟩ := d_open l
  obtain ⟨s, hs, _, M, h2⟩ := d_l6Names hr (by omega)
  refine ⟨s, hs, .of (N + M) fun n hn => ?_⟩
  rw [E_spec_DrawFreshName, h1 n (by omega)]
  simp only [Option.bind_some, rInt, rBool, rStr, rTs, rIs, rIss, rSs, rBs, rTerm, rOwnT, rOwn, rPtr, nilV, nilO, objC, dropC, intC, boolC, strC, tsC, isC, issC, ssC, bsC, anyC, nilC, arrTsC, arrIsC, arrIssC, arrSsC, arrBsC, ik_self, nb_self, cond_true, cond_false, h2 n (by omega)]
theorem namesL_size {s : ByteArray} (h : s ∈ namesL) : s.size ≤ 21 := by
  have : namesL.all (fun s => decide (s.size ≤ 21)) = true := by decide +kernel
  simpa using List.all_eq_true.1 this s h
/-- The byte k from the start of s. -/
def lawAdd (s : ByteArray) : Bool := !nvB s || decide (20 ≤ s.size) || (nvB (s ++ freshN s) && !(Op.bytesLess (freshN (s ++ freshN s)).toList (freshN s).toList || (freshN (s ++ freshN s)).toList == (freshN s).toList))
theorem lawAdd_all : namesL.all lawAdd = true := by decide +kernel
theorem e_FnFreshAdd (l : List UInt8) : Ev 6 [.one (.fr (.bs l))] [] ([.one (.bool true)], []) := by
  obtain ⟨s, hs, N, h1⟩ := d_FreshName l
  have hz := namesL_size hs
  have hf : (freshN s).size ≤ 1 := by unfold freshN; split <;> simp [ByteArray.size]
  obtain ⟨N1, k1⟩ := e_FreshNameI s (by omega)
  obtain ⟨N2, k2⟩ := e_FreshNameS s (by omega)
  have hz2 : (s ++ freshN s).size ≤ 1048577 := by rw [ByteArray.size_append]; omega
  obtain ⟨N3, k3⟩ := e_FreshNameI (s ++ freshN s) hz2
  obtain ⟨N4, k4⟩ := e_NamesValidI (s ++ freshN s) hz2
  have hla := List.all_eq_true.1 lawAdd_all s hs
  unfold lawAdd at hla
  refine .of (N + N1 + N2 + N3 + N4) fun n hn => ?_
  rw [E_laws_FnFreshAdd]
  by_cases hl : (1048576 : Int) < (l.length : Int)
  · simp only [hl, decide_true, cond_true]
  simp only [hl, decide_false, h1 n (by omega), k1 n (by omega), k2 n (by omega), k3 n (by omega), k4 n (by omega), Option.bind_some, rInt, rBool, rStr, rTs, rIs, rIss, rSs, rBs, rTerm, rOwnT, rOwn, rPtr, nilV, nilO, objC, dropC, intC, boolC, strC, tsC, isC, issC, ssC, bsC, anyC, nilC, arrTsC, arrIsC, arrIssC, arrSsC, arrBsC, ik_self, nb_self, cond_true, cond_false, decide_true, Bool.not_true, BEq.rfl]
  cases hv : nvB s
  · simp only [Bool.not_false, cond_true]
  · simp only [Bool.not_true, cond_false]
    by_cases h20 : (20 : Int) ≤ s.size
    · simp only [h20, decide_true, cond_true]
    · simp only [h20, decide_false, cond_false, decide_eq_true (show s.size + (freshN s).size ≤ 9223372036854775807 by omega), cond_true]
      have h20' : decide (20 ≤ s.size) = false := decide_eq_false (by omega)
      rw [hv, h20'] at hla
      simp only [Bool.not_true, Bool.false_or, Bool.and_eq_true] at hla
      rw [hla.1, cond_true, cond_true, hla.2]
/-- The loop of the law FnFreshName: g bytes are left. -/
def leastB (s t : ByteArray) : Nat → Int → Nat → Bool
  | 0, u, i => decide ((t.size : Int) = 1) && decide (u = IntKind.i64.wrap (IntKind.u8.wrap (((byteAt t 0).toNat : Int) - 97)))
  | g + 1, u, i => if ((byteAt s i).toNat : Int) = ((byteAt t 0).toNat : Int) then false else if ((byteAt s i).toNat : Int) < ((byteAt t 0).toNat : Int) then leastB s t g (u + 1) (i + 1) else leastB s t g u (i + 1)
theorem least_loop (s t : ByteArray) (ht : t.size = 1) (hs : s.size ≤ 1000) (n : Nat) : ∀ g d (u : Int) (i : Nat), g < d → i + g = s.size → 0 ≤ u → u ≤ i → L_laws_FnFreshName_0 n d s t u (i : Int) = some ([.one (.bool (leastB s t g u i))], [])
  | g, 0, u, i, h, _, _, _ => by omega
  | 0, d + 1, u, i, _, hi, _, _ => by
    rw [L_laws_FnFreshName_0_eq]
    simp only [cond_dec, if_neg (show ¬ (i : Int) < s.size by omega), ht, decide_eq_true (show (0 : Int) ≤ 0 by omega), decide_eq_true (show (0 : Int) < ((1 : Nat) : Int) by omega), Bool.and_self, cond_true, if_pos (show ((1 : Nat) : Int) = 1 by rfl), leastB, Int.toNat_zero, show decide (((1 : Nat) : Int) = 1) = true by rfl, Bool.true_and]
    rfl
  | g + 1, d + 1, u, i, h, hi, h0, h1 => by
    rw [L_laws_FnFreshName_0_eq]
    have w1 : IntKind.i64.wrap ((i : Int) + 1) = ((i + 1 : Nat) : Int) := wrap64 (by omega)
    have w2 : IntKind.i64.wrap (u + 1) = u + 1 := wrap64 (by omega)
    simp only [cond_dec, if_pos (show (i : Int) < s.size by omega), ht, decide_eq_true (show (0 : Int) ≤ 0 by omega), decide_eq_true (show (0 : Int) < ((1 : Nat) : Int) by omega), decide_eq_true (show (0 : Int) ≤ i by omega), decide_eq_true (show (i : Int) < s.size by omega), Bool.and_self, cond_true, leastB, Int.toNat_zero, Int.toNat_natCast, w1, w2, least_loop s t ht hs n g d (u + 1) (i + 1) (by omega) (by omega) (by omega) (by omega), least_loop s t ht hs n g d u (i + 1) (by omega) (by omega) (by omega) (by omega)]
    split
    · rfl
    · split <;> rfl
def lawLeast (s : ByteArray) : Bool := !nvB s || leastB s (freshN s) s.size 0 0
theorem lawLeast_all : namesL.all lawLeast = true := by decide +kernel
theorem e_FnFreshName (l : List UInt8) : Ev 7 [.one (.fr (.bs l))] [] ([.one (.bool true)], []) := by
  obtain ⟨s, hs, N, h1⟩ := d_FreshName l
  have hz := namesL_size hs
  obtain ⟨N1, k1⟩ := e_FreshNameI s (by omega)
  obtain ⟨N2, k2⟩ := e_FreshNameS s (by omega)
  obtain ⟨N4, k4⟩ := e_NamesValidI s (by omega)
  have hla := List.all_eq_true.1 lawLeast_all s hs
  unfold lawLeast at hla
  refine .of (N + N1 + N2 + N4 + s.size + 1) fun n hn => ?_
  rw [E_laws_FnFreshName]
  by_cases hl : (1048576 : Int) < (l.length : Int)
  · simp only [hl, decide_true, cond_true]
  simp only [hl, decide_false, h1 n (by omega), k1 n (by omega), k2 n (by omega), k4 n (by omega), Option.bind_some, rInt, rBool, rStr, rTs, rIs, rIss, rSs, rBs, rTerm, rOwnT, rOwn, rPtr, nilV, nilO, objC, dropC, intC, boolC, strC, tsC, isC, issC, ssC, bsC, anyC, nilC, arrTsC, arrIsC, arrIssC, arrSsC, arrBsC, ik_self, nb_self, cond_true, cond_false, decide_true, Bool.not_true, BEq.rfl]
  cases hv : nvB s
  · simp only [Bool.not_false, cond_true, decide_true]
  · simp only [Bool.not_true, cond_false]
    have hf : (freshN s).size = 1 := by unfold freshN; rw [hv]; rfl
    rw [hv] at hla
    simp only [Bool.not_true, Bool.false_or] at hla
    rw [show (0 : Int) = ((0 : Nat) : Int) from rfl, least_loop s _ hf (by omega) n s.size n _ 0 (by omega) (by omega) (by omega) (by omega)]
    rw [show ((0 : Nat) : Int) = 0 from rfl, hla]
end Go.Proofs.Ytgabipdafaimhaa
