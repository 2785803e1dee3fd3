/- Redexes and steps in the abstract run. -/
import Derived.Test.YtbkpfjabcohnpaaEvS
set_option linter.unusedVariables false
set_option linter.unusedSimpArgs false
namespace Go.Proofs.Ytbkpfjabcohnpaa
open Go Go.Ab Go.Dk
/-! The program's equality. -/
/-! Redexes. -/
theorem kid_get {t : T} {i : Nat} (h : i < t.kids.length) : t.kids[i]? = some (kd t i) := by
  unfold kd; simp [List.getD, h]
theorem ops_len {t : T} (hv : validB t = true) {c : Nat} (h : opsOf t.k = c) : t.kids.length = c := by
  have := (validB_ops hv).1
  omega
theorem f_redexes {n : Nat} (hn : 1 ≤ n) {t : T} (hv : validB t = true) : FF n 29 [tm t] [] = some ([nt (redexT t)], []) ∧ FF n 32 [tm t] [] = some ([nt (redexT t)], []) := by
  obtain ⟨n, rfl⟩ := pos_succ (show 0 < n by omega)
  rw [E_impl_redex, E_spec_l3Redex]
  simp only [cond_dec, Int.toNat_zero, Int.reduceToNat]
  unfold redexT
  by_cases k5 : t.k = 5
  · have hl := ops_len hv (c := 2) (by rw [k5]; rfl)
    simp only [k5, if_true, kid_get (show 0 < t.kids.length by omega), Option.bind_some]
    constructor <;> split <;> rfl
  by_cases k9 : t.k = 9
  · have hl := ops_len hv (c := 4) (by rw [k9]; rfl)
    simp only [k9, if_true, kid_get (show 3 < t.kids.length by omega), Option.bind_some, show ¬ (9 : Int) = 5 by decide, if_false]
    constructor <;> (split; rfl; split <;> rfl)
  by_cases k12 : t.k = 12
  · have hl := ops_len hv (c := 3) (by rw [k12]; rfl)
    simp only [k12, if_true, kid_get (show 1 < t.kids.length by omega), Option.bind_some, show ¬ (12 : Int) = 5 by decide, show ¬ (12 : Int) = 9 by decide, if_false]
    constructor <;> split <;> rfl
  by_cases k15 : t.k = 15
  · have hl := ops_len hv (c := 1) (by rw [k15]; rfl)
    simp only [k15, if_true, kid_get (show 0 < t.kids.length by omega), Option.bind_some, show ¬ (15 : Int) = 5 by decide, show ¬ (15 : Int) = 9 by decide, show ¬ (15 : Int) = 12 by decide, if_false]
    constructor <;> split <;> rfl
  by_cases k16 : t.k = 16
  · have hl := ops_len hv (c := 1) (by rw [k16]; rfl)
    simp only [k16, if_true, kid_get (show 0 < t.kids.length by omega), Option.bind_some, show ¬ (16 : Int) = 5 by decide, show ¬ (16 : Int) = 9 by decide, show ¬ (16 : Int) = 12 by decide, show ¬ (16 : Int) = 15 by decide, if_false]
    constructor <;> split <;> rfl
  simp [k5, k9, k12, k15, k16]
theorem f_redex {n : Nat} (hn : 1 ≤ n) {t : T} (hv : validB t = true) : FF n 29 [tm t] [] = some ([nt (redexT t)], []) := (f_redexes hn hv).1
theorem f_l3Redex {n : Nat} (hn : 1 ≤ n) {t : T} (hv : validB t = true) : FF n 32 [tm t] [] = some ([nt (redexT t)], []) := (f_redexes hn hv).2
theorem valid_kd {t : T} (hv : validB t = true) {i c : Nat} (h : opsOf t.k = c) (hi : i < c) : validB (kd t i) = true := validB_kid hv (kd_mem (by rw [ops_len hv h]; exact hi))
/-- The size of a contractum. -/
theorem con_size {t : T} (hv : validB t = true) (hr : Rx t) : (contractT t).size ≤ 160000 := by
  have hz := validB_size hv
  have kz : ∀ {i c : Nat}, opsOf t.k = c → i < c → (kd t i).size ≤ 400 := fun h hi => validB_size (valid_kd hv h hi)
  cases hr with
  | app h h' =>
    rw [con_app h]
    have h0 := valid_kd hv (i := 0) (c := 2) (by rw [h]; rfl) (by omega)
    have h1 := validB_size (valid_kd h0 (i := 1) (c := 2) (by rw [h']; rfl) (by omega))
    have h2 := kz (i := 1) (c := 2) (by rw [h]; rfl) (by omega)
    exact Nat.le_trans (sb_size _ _ _ _) (Nat.mul_le_mul h1 h2)
  | zero h h' => rw [con_zero h h']; have := kz (i := 1) (c := 4) (by rw [h]; rfl) (by omega); omega
  | succ h h' =>
    rw [con_succ h h']
    have h0 := kz (i := 0) (c := 4) (by rw [h]; rfl) (by omega)
    have h1 := kz (i := 1) (c := 4) (by rw [h]; rfl) (by omega)
    have h2 := kz (i := 2) (c := 4) (by rw [h]; rfl) (by omega)
    have h3 := validB_size (valid_kd (valid_kd hv (i := 3) (c := 4) (by rw [h]; rfl) (by omega)) (i := 0) (c := 1) (by rw [h']; rfl) (by omega))
    simp only [T.size, T.sizeL]; omega
  | move h h' => rw [con_move h]; have := kz (i := 2) (c := 3) (by rw [h]; rfl) (by omega); omega
  | fst h h' => rw [con_fst h]; have := validB_size (valid_kd (valid_kd hv (i := 0) (c := 1) (by rw [h]; rfl) (by omega)) (i := 1) (c := 3) (by rw [h']; rfl) (by omega)); omega
  | snd h h' => rw [con_snd h]; have := validB_size (valid_kd (valid_kd hv (i := 0) (c := 1) (by rw [h]; rfl) (by omega)) (i := 2) (c := 3) (by rw [h']; rfl) (by omega)); omega
/-- A term, or the zero value if it is not valid. -/
def okT (t : T) : T := if validB t then t else .mk 0 0 []
/-! The reference's contraction. -/
theorem rOwnT_ow {t : T} (k : Int → Int → List V1 → OR) : rOwnT 0 (ow t).1 k = k t.k t.n [] := rfl
/-! Ways. -/
abbrev ins (w : List Nat) : List Int := w.map fun i : Nat => (i : Int)
theorem redex0 {t : T} : (redexT t = 0) ↔ ¬ Rx t := by rw [← rx_iff]; simp
mutual
theorem wy_len {inn : Bool} : ∀ {t : T} {w : List Nat}, wyT inn t = some w → w.length ≤ t.size
  | .mk k n ts, w, h => by
    rw [wyT] at h
    rw [T.size]
    split at h
    · obtain rfl := Option.some.inj h; simp
    · split at h
      · rename_i w' hw
        obtain rfl := Option.some.inj h
        have := wy_lenL hw; omega
      · split at h
        · obtain rfl := Option.some.inj h; simp
        · cases h
theorem wy_lenL {inn : Bool} : ∀ {ts : List T} {j : Nat} {w : List Nat}, wyL inn j ts = some w → w.length ≤ 1 + T.sizeL ts
  | [], j, w, h => by cases h
  | t :: ts, j, w, h => by
    rw [wyL] at h
    rw [T.sizeL]
    split at h
    · rename_i v hv
      obtain rfl := Option.some.inj h
      have := wy_len hv
      simp only [List.length_cons]; omega
    · have := wy_lenL h; omega
end
end Go.Proofs.Ytbkpfjabcohnpaa
