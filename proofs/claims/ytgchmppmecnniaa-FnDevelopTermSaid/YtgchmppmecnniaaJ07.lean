/- Part 7 of the proof. -/
import Derived.Test.YtgchmppmecnniaaJ01
import Derived.Test.YtgchmppmecnniaaJ02
import Derived.Test.YtgchmppmecnniaaJ03
import Derived.Test.YtgchmppmecnniaaJ04
import Derived.Test.YtgchmppmecnniaaJ05
import Derived.Test.YtgchmppmecnniaaJ06
import Derived.ChangeArms
import Derived.Deep.Slices
import Derived.Deep.Strs
import Derived.WalkKit
import Derived.ProofKit
import Derived.OpenShut
import Derived.ShutString
import Derived.ChangeOld
import Derived.Below
set_option linter.unusedVariables false
set_option linter.unusedSimpArgs false
section
namespace Go.Proofs.Ytgchmppmecnniaa
open Go Go.Dk
mutual
def okD : T → Bool
 | .mk k n ts => okDL ts && (validB (.mk k n (devL ts)) && validB (devT (.mk k n ts)))
def okDL : List T → Bool
 | [] => true
 | t :: ts => okD t && okDL ts
end
theorem dev_node {k n : Int} {ts : List T} (h : ¬ Rx (.mk k n ts)) : devT (.mk k n ts) = .mk k n (devL ts) := by rw [devT, if_neg h]
theorem dev_red {k n : Int} {ts : List T} (h : Rx (.mk k n ts)) : devT (.mk k n ts) = contractT (.mk k n (devL ts)) := by rw [devT, if_pos h]
theorem not_rx {k n : Int} {ts : List T} (h : k ≠ 5 ∧ k ≠ 9 ∧ k ≠ 12 ∧ k ≠ 15 ∧ k ≠ 16) : ¬ Rx (.mk k n ts) := fun hr => by
 have : k = 5 ∨ k = 9 ∨ k = 12 ∨ k = 15 ∨ k = 16 := hr.k
 omega
theorem okD_node {t : T} {k n : Int} {ts : List T} (e : t = .mk k n ts) (h1 : okDL ts = true) (h2 : validB (.mk k n (devL ts)) = true) (h3 : validB (devT t) = true) : okD t = true := by
 subst e
 rw [okD, h1, h2, h3]; rfl
namespace Tm
theorem rx_app {f u : Tm} (h : Rx (.mk 5 0 [of f, of u])) : ∃ a b, f = lam a b := by
 cases h with
 | app h h' =>
  have h' : (of f).k = 4 := h'
  cases f <;> first | exact ⟨_, _, rfl⟩ | (simp only [of, T.k] at h'; omega)
 | zero h h' => exact absurd (show (5 : Int) = 9 from h) (by omega)
 | succ h h' => exact absurd (show (5 : Int) = 9 from h) (by omega)
 | move h h' => exact absurd (show (5 : Int) = 12 from h) (by omega)
 | fst h h' => exact absurd (show (5 : Int) = 15 from h) (by omega)
 | snd h h' => exact absurd (show (5 : Int) = 16 from h) (by omega)
theorem rx_elim {p z s n : Tm} (h : Rx (.mk 9 0 [of p, of z, of s, of n])) : n = zero ∨ ∃ m, n = succ m := by
 cases h with
 | app h h' => exact absurd (show (9 : Int) = 5 from h) (by omega)
 | zero h h' =>
  have h' : (of n).k = 7 := h'
  cases n <;> first | exact .inl rfl | (simp only [of, T.k] at h'; omega)
 | succ h h' =>
  have h' : (of n).k = 8 := h'
  cases n <;> first | exact .inr ⟨_, rfl⟩ | (simp only [of, T.k] at h'; omega)
 | move h h' => exact absurd (show (9 : Int) = 12 from h) (by omega)
 | fst h h' => exact absurd (show (9 : Int) = 15 from h) (by omega)
 | snd h h' => exact absurd (show (9 : Int) = 16 from h) (by omega)
theorem rx_move {p e x : Tm} (h : Rx (.mk 12 0 [of p, of e, of x])) : ∃ a, e = refl a := by
 cases h with
 | app h h' => exact absurd (show (12 : Int) = 5 from h) (by omega)
 | zero h h' => exact absurd (show (12 : Int) = 9 from h) (by omega)
 | succ h h' => exact absurd (show (12 : Int) = 9 from h) (by omega)
 | move h h' =>
  have h' : (of e).k = 11 := h'
  cases e <;> first | exact ⟨_, rfl⟩ | (simp only [of, T.k] at h'; omega)
 | fst h h' => exact absurd (show (12 : Int) = 15 from h) (by omega)
 | snd h h' => exact absurd (show (12 : Int) = 16 from h) (by omega)
theorem rx_fst {q : Tm} (h : Rx (.mk 15 0 [of q])) : ∃ s a b, q = pair s a b := by
 have h' : (of q).k = 14 := by
  cases h with
  | app h h' => exact absurd (show (15 : Int) = 5 from h) (by omega)
  | zero h h' => exact absurd (show (15 : Int) = 9 from h) (by omega)
  | succ h h' => exact absurd (show (15 : Int) = 9 from h) (by omega)
  | move h h' => exact absurd (show (15 : Int) = 12 from h) (by omega)
  | fst h h' => exact h'
  | snd h h' => exact absurd (show (15 : Int) = 16 from h) (by omega)
 cases q <;> first | exact ⟨_, _, _, rfl⟩ | (simp only [of, T.k] at h'; omega)
theorem rx_snd {q : Tm} (h : Rx (.mk 16 0 [of q])) : ∃ s a b, q = pair s a b := by
 have h' : (of q).k = 14 := by
  cases h with
  | app h h' => exact absurd (show (16 : Int) = 5 from h) (by omega)
  | zero h h' => exact absurd (show (16 : Int) = 9 from h) (by omega)
  | succ h h' => exact absurd (show (16 : Int) = 9 from h) (by omega)
  | move h h' => exact absurd (show (16 : Int) = 12 from h) (by omega)
  | fst h h' => exact absurd (show (16 : Int) = 15 from h) (by omega)
  | snd h h' => exact h'
 cases q <;> first | exact ⟨_, _, _, rfl⟩ | (simp only [of, T.k] at h'; omega)
theorem size_sub (t : Tm) : ∀ (σ : Nat → Tm) (K : Nat), 1 ≤ K → (∀ n, (of (σ n)).size ≤ K) → (of (t.sub σ)).size ≤ (of t).size * K := by
 have hu : ∀ {σ : Nat → Tm} {K : Nat}, 1 ≤ K → (∀ n, (of (σ n)).size ≤ K) → ∀ n, (of (ups σ n)).size ≤ K := by
  intro σ K h1 h n
  cases n with
  | zero => simpa [ups, of, T.size, T.sizeL] using h1
  | succ n => show (of (σ n).wk).size ≤ K; rw [wk, size_ren]; exact h n
 induction t with
 | var n => intro σ K h1 h; simpa [sub, of, T.size, T.sizeL] using h n
 | sort n => intro σ K h1 h; simpa [sub, of, T.size, T.sizeL] using h1
 | nat => intro σ K h1 h; simpa [sub, of, T.size, T.sizeL] using h1
 | zero => intro σ K h1 h; simpa [sub, of, T.size, T.sizeL] using h1
 | succ a ha => intro σ K h1 h; have := ha σ K h1 h; simp only [sub, of, T.size, T.sizeL, Nat.add_mul, Nat.one_mul, Nat.zero_mul, Nat.add_zero]; omega
 | refl a ha => intro σ K h1 h; have := ha σ K h1 h; simp only [sub, of, T.size, T.sizeL, Nat.add_mul, Nat.one_mul, Nat.zero_mul, Nat.add_zero]; omega
 | fst a ha => intro σ K h1 h; have := ha σ K h1 h; simp only [sub, of, T.size, T.sizeL, Nat.add_mul, Nat.one_mul, Nat.zero_mul, Nat.add_zero]; omega
 | snd a ha => intro σ K h1 h; have := ha σ K h1 h; simp only [sub, of, T.size, T.sizeL, Nat.add_mul, Nat.one_mul, Nat.zero_mul, Nat.add_zero]; omega
 | pi a b ha hb => intro σ K h1 h; have := ha σ K h1 h; have := hb (ups σ) K h1 (hu h1 h); simp only [sub, of, T.size, T.sizeL, Nat.add_mul, Nat.one_mul, Nat.zero_mul, Nat.add_zero]; omega
 | sig a b ha hb => intro σ K h1 h; have := ha σ K h1 h; have := hb (ups σ) K h1 (hu h1 h); simp only [sub, of, T.size, T.sizeL, Nat.add_mul, Nat.one_mul, Nat.zero_mul, Nat.add_zero]; omega
 | lam a b ha hb => intro σ K h1 h; have := ha σ K h1 h; have := hb (ups σ) K h1 (hu h1 h); simp only [sub, of, T.size, T.sizeL, Nat.add_mul, Nat.one_mul, Nat.zero_mul, Nat.add_zero]; omega
 | app a b ha hb => intro σ K h1 h; have := ha σ K h1 h; have := hb σ K h1 h; simp only [sub, of, T.size, T.sizeL, Nat.add_mul, Nat.one_mul, Nat.zero_mul, Nat.add_zero]; omega
 | id a b c ha hb hc => intro σ K h1 h; have := ha σ K h1 h; have := hb σ K h1 h; have := hc σ K h1 h; simp only [sub, of, T.size, T.sizeL, Nat.add_mul, Nat.one_mul, Nat.zero_mul, Nat.add_zero]; omega
 | move a b c ha hb hc => intro σ K h1 h; have := ha σ K h1 h; have := hb σ K h1 h; have := hc σ K h1 h; simp only [sub, of, T.size, T.sizeL, Nat.add_mul, Nat.one_mul, Nat.zero_mul, Nat.add_zero]; omega
 | pair a b c ha hb hc => intro σ K h1 h; have := ha σ K h1 h; have := hb σ K h1 h; have := hc σ K h1 h; simp only [sub, of, T.size, T.sizeL, Nat.add_mul, Nat.one_mul, Nat.zero_mul, Nat.add_zero]; omega
 | elim a b c d ha hb hc hd => intro σ K h1 h; have := ha σ K h1 h; have := hb σ K h1 h; have := hc σ K h1 h; have := hd σ K h1 h; simp only [sub, of, T.size, T.sizeL, Nat.add_mul, Nat.one_mul, Nat.zero_mul, Nat.add_zero]; omega
theorem cl_sub {t : Tm} : ∀ {d e : Nat} {σ : Nat → Tm}, cl d t → (∀ n, n < d → cl e (σ n)) → cl e (t.sub σ) := by
 have hu : ∀ {d e : Nat} {σ : Nat → Tm}, (∀ n, n < d → cl e (σ n)) → ∀ n, n < d + 1 → cl (e + 1) (ups σ n) := by
  intro d e σ h n hn
  cases n with
  | zero => exact Nat.succ_pos _
  | succ n => exact cl_ren (h n (by omega)) fun i hi => by omega
 induction t with
 | var n => exact fun h k => k n h
 | sort n => intros; trivial
 | nat => intros; trivial
 | zero => intros; trivial
 | succ a ha => exact fun h k => ha h k
 | refl a ha => exact fun h k => ha h k
 | fst a ha => exact fun h k => ha h k
 | snd a ha => exact fun h k => ha h k
 | pi a b ha hb => exact fun h k => ⟨ha h.1 k, hb h.2 (hu k)⟩
 | sig a b ha hb => exact fun h k => ⟨ha h.1 k, hb h.2 (hu k)⟩
 | lam a b ha hb => exact fun h k => ⟨ha h.1 k, hb h.2 (hu k)⟩
 | app a b ha hb => exact fun h k => ⟨ha h.1 k, hb h.2 k⟩
 | id a b c ha hb hc => exact fun h k => ⟨ha h.1 k, hb h.2.1 k, hc h.2.2 k⟩
 | move a b c ha hb hc => exact fun h k => ⟨ha h.1 k, hb h.2.1 k, hc h.2.2 k⟩
 | pair a b c ha hb hc => exact fun h k => ⟨ha h.1 k, hb h.2.1 k, hc h.2.2 k⟩
 | elim a b c e ha hb hc he => exact fun h k => ⟨ha h.1 k, hb h.2.1 k, hc h.2.2.1 k, he h.2.2.2 k⟩
theorem srt_sub {t : Tm} : ∀ {σ : Nat → Tm}, srt t → (∀ n, srt (σ n)) → srt (t.sub σ) := by
 have hu : ∀ {σ : Nat → Tm}, (∀ n, srt (σ n)) → ∀ n, srt (ups σ n) := by
  intro σ h n
  cases n with
  | zero => trivial
  | succ n => exact srt_ren (h n)
 induction t with
 | var n => exact fun h k => k n
 | sort n => exact fun h k => h
 | nat => intros; trivial
 | zero => intros; trivial
 | succ a ha => exact fun h k => ha h k
 | refl a ha => exact fun h k => ha h k
 | fst a ha => exact fun h k => ha h k
 | snd a ha => exact fun h k => ha h k
 | pi a b ha hb => exact fun h k => ⟨ha h.1 k, hb h.2 (hu k)⟩
 | sig a b ha hb => exact fun h k => ⟨ha h.1 k, hb h.2 (hu k)⟩
 | lam a b ha hb => exact fun h k => ⟨ha h.1 k, hb h.2 (hu k)⟩
 | app a b ha hb => exact fun h k => ⟨ha h.1 k, hb h.2 k⟩
 | id a b c ha hb hc => exact fun h k => ⟨ha h.1 k, hb h.2.1 k, hc h.2.2 k⟩
 | move a b c ha hb hc => exact fun h k => ⟨ha h.1 k, hb h.2.1 k, hc h.2.2 k⟩
 | pair a b c ha hb hc => exact fun h k => ⟨ha h.1 k, hb h.2.1 k, hc h.2.2 k⟩
 | elim a b c e ha hb hc he => exact fun h k => ⟨ha h.1 k, hb h.2.1 k, hc h.2.2.1 k, he h.2.2.2 k⟩
theorem cl_inst {b u : Tm} {d : Nat} (h : cl (d + 1) b) (k : cl d u) : cl d (b.inst u) := cl_sub h fun n hn => by
 cases n with
 | zero => exact k
 | succ n => show n < d; omega
theorem srt_inst {b u : Tm} (h : srt b) (k : srt u) : srt (b.inst u) := srt_sub h fun n => by
 cases n with
 | zero => exact k
 | succ n => trivial
def Hk : Nat → Nat
 | 1 => 1
 | 2 => 2
 | 3 => 4
 | 4 => 6
 | _ => 0
def Sk : Nat → Nat
 | 1 => 1
 | 2 => 5
 | 3 => 25
 | 4 => 125
 | _ => 0
theorem num1 {k : Nat} (h : 1 ≤ k) (h' : k ≤ 3) : Hk k + 1 ≤ Hk (k + 1) ∧ 1 + 4 * Sk k ≤ Sk (k + 1) := by
 rcases (by omega : k = 1 ∨ k = 2 ∨ k = 3) with rfl | rfl | rfl <;> decide
theorem num2 {j : Nat} (h : 1 ≤ j) (h' : j ≤ 2) : Hk j + Hk (j + 1) ≤ Hk (j + 1 + 1) + 1 ∧ Sk j * Sk (j + 1) ≤ Sk (j + 1 + 1) ∧ Hk (j + 1) + 2 ≤ Hk (j + 1 + 1) ∧ 3 + 4 * Sk (j + 1) + 2 * Sk j ≤ Sk (j + 1 + 1) ∧ Hk j + 1 ≤ Hk (j + 1) ∧ Sk j + 4 ≤ Sk (j + 1) := by
 rcases (by omega : j = 1 ∨ j = 2) with rfl | rfl <;> decide
theorem hpos {a : Tm} {k : Nat} (h : ht a ≤ k) : 1 ≤ k := by have := ht_pos a; omega
theorem dev_ok (k : Nat) (m : Tm) (d : Nat) (h : ht m ≤ k) (hk : k ≤ 4) (c : cl d m) (s : srt m) : ∃ u, devT (of m) = of u ∧ ht u ≤ Hk k ∧ (of u).size ≤ Sk k ∧ cl d u ∧ srt u := by
 obtain ⟨k, rfl⟩ : ∃ j, k = j + 1 := ⟨k - 1, by have := ht_pos m; omega⟩
 have ih := fun (a : Tm) (e : Nat) (ha : ht a ≤ k) => dev_ok k a e ha (by omega)
 have one : 1 ≤ Hk (k + 1) ∧ 1 ≤ Sk (k + 1) := by rcases (by omega : k = 0 ∨ k = 1 ∨ k = 2 ∨ k = 3) with rfl | rfl | rfl | rfl <;> decide
 cases m with
 | var n => exact ⟨.var n, by rw [of, dev_node (not_rx (by omega)), devL], one.1, one.2, c, s⟩
 | sort n => exact ⟨.sort n, by rw [of, dev_node (not_rx (by omega)), devL], one.1, one.2, c, s⟩
 | nat => exact ⟨.nat, by rw [of, dev_node (not_rx (by omega)), devL], one.1, one.2, c, s⟩
 | zero => exact ⟨.zero, by rw [of, dev_node (not_rx (by omega)), devL], one.1, one.2, c, s⟩
 | pi a b =>
  simp only [ht] at h
  obtain ⟨a', ea, ha, za, ca, sa⟩ := ih a d (by omega) c.1 s.1
  obtain ⟨b', eb, hb, zb, cb, sb⟩ := ih b (d + 1) (by omega) c.2 s.2
  have hk0 := hpos (a := a) (k := k) (by omega)
  obtain ⟨hH, hS⟩ := num1 hk0 (by omega)
  refine ⟨.pi a' b', ?_, by simp only [ht]; omega, by simp only [of, T.size, T.sizeL]; omega, ⟨ca, cb⟩, ⟨sa, sb⟩⟩
  rw [of, dev_node (not_rx (by omega)), devL, devL, devL]
  rw [ea, eb]; rfl
 | sig a b =>
  simp only [ht] at h
  obtain ⟨a', ea, ha, za, ca, sa⟩ := ih a d (by omega) c.1 s.1
  obtain ⟨b', eb, hb, zb, cb, sb⟩ := ih b (d + 1) (by omega) c.2 s.2
  have hk0 := hpos (a := a) (k := k) (by omega)
  obtain ⟨hH, hS⟩ := num1 hk0 (by omega)
  refine ⟨.sig a' b', ?_, by simp only [ht]; omega, by simp only [of, T.size, T.sizeL]; omega, ⟨ca, cb⟩, ⟨sa, sb⟩⟩
  rw [of, dev_node (not_rx (by omega)), devL, devL, devL]
  rw [ea, eb]; rfl
 | lam a b =>
  simp only [ht] at h
  obtain ⟨a', ea, ha, za, ca, sa⟩ := ih a d (by omega) c.1 s.1
  obtain ⟨b', eb, hb, zb, cb, sb⟩ := ih b (d + 1) (by omega) c.2 s.2
  have hk0 := hpos (a := a) (k := k) (by omega)
  obtain ⟨hH, hS⟩ := num1 hk0 (by omega)
  refine ⟨.lam a' b', ?_, by simp only [ht]; omega, by simp only [of, T.size, T.sizeL]; omega, ⟨ca, cb⟩, ⟨sa, sb⟩⟩
  rw [of, dev_node (not_rx (by omega)), devL, devL, devL]
  rw [ea, eb]; rfl
 | id a b e =>
  simp only [ht] at h
  obtain ⟨a', ea, ha, za, ca, sa⟩ := ih a d (by omega) c.1 s.1
  obtain ⟨b', eb, hb, zb, cb, sb⟩ := ih b d (by omega) c.2.1 s.2.1
  obtain ⟨c', ec, hc, zc, cc, sc⟩ := ih e d (by omega) c.2.2 s.2.2
  have hk0 := hpos (a := a) (k := k) (by omega)
  obtain ⟨hH, hS⟩ := num1 hk0 (by omega)
  refine ⟨.id a' b' c', ?_, by simp only [ht]; omega, by simp only [of, T.size, T.sizeL]; omega, ⟨ca, cb, cc⟩, ⟨sa, sb, sc⟩⟩
  rw [of, dev_node (not_rx (by omega)), devL, devL, devL, devL]
  rw [ea, eb, ec]; rfl
 | pair a b e =>
  simp only [ht] at h
  obtain ⟨a', ea, ha, za, ca, sa⟩ := ih a d (by omega) c.1 s.1
  obtain ⟨b', eb, hb, zb, cb, sb⟩ := ih b d (by omega) c.2.1 s.2.1
  obtain ⟨c', ec, hc, zc, cc, sc⟩ := ih e d (by omega) c.2.2 s.2.2
  have hk0 := hpos (a := a) (k := k) (by omega)
  obtain ⟨hH, hS⟩ := num1 hk0 (by omega)
  refine ⟨.pair a' b' c', ?_, by simp only [ht]; omega, by simp only [of, T.size, T.sizeL]; omega, ⟨ca, cb, cc⟩, ⟨sa, sb, sc⟩⟩
  rw [of, dev_node (not_rx (by omega)), devL, devL, devL, devL]
  rw [ea, eb, ec]; rfl
 | succ a =>
  simp only [ht] at h
  obtain ⟨a', ea, ha, za, ca, sa⟩ := ih a d (by omega) c s
  have hk0 := hpos (a := a) (k := k) (by omega)
  obtain ⟨hH, hS⟩ := num1 hk0 (by omega)
  refine ⟨.succ a', ?_, by simp only [ht]; omega, by simp only [of, T.size, T.sizeL]; omega, ca, sa⟩
  rw [of, dev_node (not_rx (by omega)), devL, devL]
  rw [ea]; rfl
 | refl a =>
  simp only [ht] at h
  obtain ⟨a', ea, ha, za, ca, sa⟩ := ih a d (by omega) c s
  have hk0 := hpos (a := a) (k := k) (by omega)
  obtain ⟨hH, hS⟩ := num1 hk0 (by omega)
  refine ⟨.refl a', ?_, by simp only [ht]; omega, by simp only [of, T.size, T.sizeL]; omega, ca, sa⟩
  rw [of, dev_node (not_rx (by omega)), devL, devL]
  rw [ea]; rfl
 | app a b =>
  simp only [ht] at h
  obtain ⟨a', ea, ha, za, ca, sa⟩ := ih a d (by omega) c.1 s.1
  obtain ⟨b', eb, hb, zb, cb, sb⟩ := ih b d (by omega) c.2 s.2
  have hk0 := hpos (a := a) (k := k) (by omega)
  obtain ⟨hH, hS⟩ := num1 hk0 (by omega)
  by_cases hr : Rx (of (.app a b))
  ·rw [of] at hr ⊢
   rw [dev_red hr, devL, devL, devL]
   obtain ⟨A, B, rfl⟩ := rx_app hr
   simp only [ht] at h
   obtain ⟨j, rfl⟩ : ∃ j, k = j + 1 := ⟨k - 1, by have := ht_pos A; omega⟩
   obtain ⟨A', eA, _⟩ := dev_ok j A d (by omega) (by omega) c.1.1 s.1.1
   obtain ⟨B', eB, hB, zB, cB, sB⟩ := dev_ok j B (d + 1) (by omega) (by omega) c.1.2 s.1.2
   obtain ⟨n1, n2, n3, n4, n5, n6⟩ := num2 (j := j) (by have := ht_pos A; omega) (by omega)
   refine ⟨B'.inst b', ?_, by have := ht_inst B' b'; omega, ?_, cl_inst cB cb, srt_inst sB sb⟩
   ·rw [eb, of, dev_node (not_rx (by omega)), devL, devL, devL, eA, eB]
    exact of_inst B' b'
   ·have hp := Nat.mul_le_mul zB zb
    have := size_sub B' (sc b' var) (of b').size (by have := size_pos (of b'); omega) (fun i => by
     cases i with
     | zero => exact Nat.le_refl _
     | succ i => have := size_pos (of b'); simpa [sc, of, T.size, T.sizeL] using this)
    have hq : (of B').size * (of b').size ≤ Sk (j + 1 + 1) := Nat.le_trans hp n2
    exact Nat.le_trans this hq
  ·refine ⟨.app a' b', ?_, by simp only [ht]; omega, by simp only [of, T.size, T.sizeL]; omega, ⟨ca, cb⟩, ⟨sa, sb⟩⟩
   rw [of] at hr ⊢
   rw [dev_node hr, devL, devL, devL, ea, eb]; rfl
 | elim a b e f =>
  simp only [ht] at h
  obtain ⟨a', ea, ha, za, ca, sa⟩ := ih a d (by omega) c.1 s.1
  obtain ⟨b', eb, hb, zb, cb, sb⟩ := ih b d (by omega) c.2.1 s.2.1
  obtain ⟨c', ec, hc, zc, cc, sc⟩ := ih e d (by omega) c.2.2.1 s.2.2.1
  obtain ⟨f', ef, hf, zf, cf, sf⟩ := ih f d (by omega) c.2.2.2 s.2.2.2
  have hk0 := hpos (a := a) (k := k) (by omega)
  obtain ⟨hH, hS⟩ := num1 hk0 (by omega)
  by_cases hr : Rx (of (.elim a b e f))
  ·rw [of] at hr ⊢
   rw [dev_red hr, devL, devL, devL, devL, devL]
   rcases rx_elim hr with rfl | ⟨N, rfl⟩
   ·refine ⟨b', ?_, by omega, by omega, cb, sb⟩
    rw [ea, eb, ec]; rfl
   ·simp only [ht] at h
    obtain ⟨j, rfl⟩ : ∃ j, k = j + 1 := ⟨k - 1, by have := ht_pos N; omega⟩
    obtain ⟨N', eN, hN, zN, cN, sN⟩ := dev_ok j N d (by omega) (by omega) c.2.2.2 s.2.2.2
    obtain ⟨n1, n2, n3, n4, n5, n6⟩ := num2 (j := j) (by have := ht_pos N; omega) (by omega)
    refine ⟨.app (.app c' N') (.elim a' b' c' N'), ?_, by simp only [ht]; omega, by simp only [of, T.size, T.sizeL]; omega, ⟨⟨cc, cN⟩, ca, cb, cc, cN⟩, ⟨sc, sN⟩, sa, sb, sc, sN⟩
    have e1 : devT (of (.succ N)) = .mk 8 0 [of N'] := by rw [of, dev_node (not_rx (by omega)), devL, devL, eN]
    rw [ea, eb, ec, e1]; rfl
  ·refine ⟨.elim a' b' c' f', ?_, by simp only [ht]; omega, by simp only [of, T.size, T.sizeL]; omega, ⟨ca, cb, cc, cf⟩, ⟨sa, sb, sc, sf⟩⟩
   rw [of] at hr ⊢
   rw [dev_node hr, devL, devL, devL, devL, devL, ea, eb, ec, ef]; rfl
 | move a b e =>
  simp only [ht] at h
  obtain ⟨a', ea, ha, za, ca, sa⟩ := ih a d (by omega) c.1 s.1
  obtain ⟨b', eb, hb, zb, cb, sb⟩ := ih b d (by omega) c.2.1 s.2.1
  obtain ⟨c', ec, hc, zc, cc, sc⟩ := ih e d (by omega) c.2.2 s.2.2
  have hk0 := hpos (a := a) (k := k) (by omega)
  obtain ⟨hH, hS⟩ := num1 hk0 (by omega)
  by_cases hr : Rx (of (.move a b e))
  ·rw [of] at hr ⊢
   rw [dev_red hr, devL, devL, devL, devL]
   obtain ⟨A, rfl⟩ := rx_move hr
   refine ⟨c', ?_, by omega, by omega, cc, sc⟩
   rw [ec]; rfl
  ·refine ⟨.move a' b' c', ?_, by simp only [ht]; omega, by simp only [of, T.size, T.sizeL]; omega, ⟨ca, cb, cc⟩, ⟨sa, sb, sc⟩⟩
   rw [of] at hr ⊢
   rw [dev_node hr, devL, devL, devL, devL, ea, eb, ec]; rfl
 | fst a =>
  simp only [ht] at h
  obtain ⟨a', ea, ha, za, ca, sa⟩ := ih a d (by omega) c s
  have hk0 := hpos (a := a) (k := k) (by omega)
  obtain ⟨hH, hS⟩ := num1 hk0 (by omega)
  by_cases hr : Rx (of (.fst a))
  ·rw [of] at hr ⊢
   rw [dev_red hr, devL, devL]
   obtain ⟨S, A, B, rfl⟩ := rx_fst hr
   simp only [ht] at h
   obtain ⟨j, rfl⟩ : ∃ j, k = j + 1 := ⟨k - 1, by have := ht_pos S; omega⟩
   obtain ⟨X, eX, hX, zX, cX, sX⟩ := dev_ok j A d (by omega) (by omega) c.2.1 s.2.1
   obtain ⟨n1, n2, n3, n4, n5, n6⟩ := num2 (j := j) (by have := ht_pos S; omega) (by omega)
   refine ⟨X, ?_, by omega, by omega, cX, sX⟩
   rw [of, dev_node (not_rx (by omega)), devL, devL, devL, devL, ← eX]; rfl
  ·refine ⟨.fst a', ?_, by simp only [ht]; omega, by simp only [of, T.size, T.sizeL]; omega, ca, sa⟩
   rw [of] at hr ⊢
   rw [dev_node hr, devL, devL, ea]; rfl
 | snd a =>
  simp only [ht] at h
  obtain ⟨a', ea, ha, za, ca, sa⟩ := ih a d (by omega) c s
  have hk0 := hpos (a := a) (k := k) (by omega)
  obtain ⟨hH, hS⟩ := num1 hk0 (by omega)
  by_cases hr : Rx (of (.snd a))
  ·rw [of] at hr ⊢
   rw [dev_red hr, devL, devL]
   obtain ⟨S, A, B, rfl⟩ := rx_snd hr
   simp only [ht] at h
   obtain ⟨j, rfl⟩ : ∃ j, k = j + 1 := ⟨k - 1, by have := ht_pos S; omega⟩
   obtain ⟨X, eX, hX, zX, cX, sX⟩ := dev_ok j B d (by omega) (by omega) c.2.2 s.2.2
   obtain ⟨n1, n2, n3, n4, n5, n6⟩ := num2 (j := j) (by have := ht_pos S; omega) (by omega)
   refine ⟨X, ?_, by omega, by omega, cX, sX⟩
   rw [of, dev_node (not_rx (by omega)), devL, devL, devL, devL, ← eX]; rfl
  ·refine ⟨.snd a', ?_, by simp only [ht]; omega, by simp only [of, T.size, T.sizeL]; omega, ca, sa⟩
   rw [of] at hr ⊢
   rw [dev_node hr, devL, devL, ea]; rfl
termination_by k
decreasing_by all_goals omega
theorem dev_vd {m : Tm} {d : Nat} (h : ht m ≤ 4) (hd : d + ht m ≤ 13) (c : cl d m) (s : srt m) : validB (devT (of m)) = true := by
 obtain ⟨u, e, h1, h2, h3, h4⟩ := dev_ok 4 m d h (by omega) c s
 have := ht_pos m
 rw [e]
 exact vd_of h3 h4 (by simp only [Hk] at h1; omega) (by omega) (by simp only [Sk] at h2; omega)
theorem of_kids_pi (a b : Tm) : of (.pi a b) = .mk 3 0 [of a, of b] := rfl
theorem of_kids_sig (a b : Tm) : of (.sig a b) = .mk 13 0 [of a, of b] := rfl
theorem of_kids_lam (a b : Tm) : of (.lam a b) = .mk 4 0 [of a, of b] := rfl
theorem of_kids_id (a b e : Tm) : of (.id a b e) = .mk 10 0 [of a, of b, of e] := rfl
theorem of_kids_pair (a b e : Tm) : of (.pair a b e) = .mk 14 0 [of a, of b, of e] := rfl
theorem of_kids_succ (a : Tm) : of (.succ a) = .mk 8 0 [of a] := rfl
theorem of_kids_refl (a : Tm) : of (.refl a) = .mk 11 0 [of a] := rfl
theorem of_kids_app (a b : Tm) : of (.app a b) = .mk 5 0 [of a, of b] := rfl
theorem of_kids_elim (a b e f : Tm) : of (.elim a b e f) = .mk 9 0 [of a, of b, of e, of f] := rfl
theorem of_kids_move (a b e : Tm) : of (.move a b e) = .mk 12 0 [of a, of b, of e] := rfl
theorem of_kids_fst (a : Tm) : of (.fst a) = .mk 15 0 [of a] := rfl
theorem of_kids_snd (a : Tm) : of (.snd a) = .mk 16 0 [of a] := rfl
theorem okD_of {m : Tm} : ∀ {d : Nat}, ht m ≤ 4 → d + ht m ≤ 13 → cl d m → srt m → okD (of m) = true := by
 have leaf : ∀ {m : Tm} {k n : Int}, of m = .mk k n [] → ¬ Rx (.mk k n []) → validB (of m) = true → okD (of m) = true := fun e hr v => by
  refine okD_node e rfl ?_ ?_
  ·rw [devL, ← e]; exact v
  ·rw [e, dev_node hr, devL, ← e]; exact v
 induction m with
 | var n => intro d h hd c s; exact leaf (k := 1) rfl (not_rx (by omega)) (vd_of (d := d) c s (by simp [ht]) (by simp only [ht] at hd; omega) (by simp [of, T.size, T.sizeL]))
 | sort n => intro d h hd c s; exact leaf (k := 2) rfl (not_rx (by omega)) (vd_of (d := d) c s (by simp [ht]) (by simp only [ht] at hd; omega) (by simp [of, T.size, T.sizeL]))
 | nat => intro d h hd c s; exact leaf (k := 6) rfl (not_rx (by omega)) (by decide +kernel)
 | zero => intro d h hd c s; exact leaf (k := 7) rfl (not_rx (by omega)) (by decide +kernel)
 | pi a b ja jb =>
  intro d h hd c s
  have h' := h
  simp only [ht] at h hd
  obtain ⟨a', ea, ha, za, ca, sa⟩ := dev_ok 3 a d (by omega) (by omega) c.1 s.1
  have qa := ja (d := d) (by omega) (by omega) c.1 s.1
  obtain ⟨b', eb, hb, zb, cb, sb⟩ := dev_ok 3 b (d + 1) (by omega) (by omega) c.2 s.2
  have qb := jb (d := (d + 1)) (by omega) (by omega) c.2 s.2
  have vn : vdM (.pi a' b') = true := vd_of (d := d) ⟨ca, cb⟩ ⟨sa, sb⟩ (by simp only [ht, Hk] at *; omega) (by omega) (by simp only [of, T.size, T.sizeL, Sk] at *; omega)
  exact okD_node (of_kids_pi a b) (by simp only [okDL, qa, qb, Bool.and_self]) (by show validB (.mk 3 0 (devL [of a, of b])) = true; simp only [devL, ea, eb]; exact vn) (dev_vd h' (by simp only [ht]; omega) c s)
 | sig a b ja jb =>
  intro d h hd c s
  have h' := h
  simp only [ht] at h hd
  obtain ⟨a', ea, ha, za, ca, sa⟩ := dev_ok 3 a d (by omega) (by omega) c.1 s.1
  have qa := ja (d := d) (by omega) (by omega) c.1 s.1
  obtain ⟨b', eb, hb, zb, cb, sb⟩ := dev_ok 3 b (d + 1) (by omega) (by omega) c.2 s.2
  have qb := jb (d := (d + 1)) (by omega) (by omega) c.2 s.2
  have vn : vdM (.sig a' b') = true := vd_of (d := d) ⟨ca, cb⟩ ⟨sa, sb⟩ (by simp only [ht, Hk] at *; omega) (by omega) (by simp only [of, T.size, T.sizeL, Sk] at *; omega)
  exact okD_node (of_kids_sig a b) (by simp only [okDL, qa, qb, Bool.and_self]) (by show validB (.mk 13 0 (devL [of a, of b])) = true; simp only [devL, ea, eb]; exact vn) (dev_vd h' (by simp only [ht]; omega) c s)
 | lam a b ja jb =>
  intro d h hd c s
  have h' := h
  simp only [ht] at h hd
  obtain ⟨a', ea, ha, za, ca, sa⟩ := dev_ok 3 a d (by omega) (by omega) c.1 s.1
  have qa := ja (d := d) (by omega) (by omega) c.1 s.1
  obtain ⟨b', eb, hb, zb, cb, sb⟩ := dev_ok 3 b (d + 1) (by omega) (by omega) c.2 s.2
  have qb := jb (d := (d + 1)) (by omega) (by omega) c.2 s.2
  have vn : vdM (.lam a' b') = true := vd_of (d := d) ⟨ca, cb⟩ ⟨sa, sb⟩ (by simp only [ht, Hk] at *; omega) (by omega) (by simp only [of, T.size, T.sizeL, Sk] at *; omega)
  exact okD_node (of_kids_lam a b) (by simp only [okDL, qa, qb, Bool.and_self]) (by show validB (.mk 4 0 (devL [of a, of b])) = true; simp only [devL, ea, eb]; exact vn) (dev_vd h' (by simp only [ht]; omega) c s)
 | id a b e ja jb jc =>
  intro d h hd c s
  have h' := h
  simp only [ht] at h hd
  obtain ⟨a', ea, ha, za, ca, sa⟩ := dev_ok 3 a d (by omega) (by omega) c.1 s.1
  have qa := ja (d := d) (by omega) (by omega) c.1 s.1
  obtain ⟨b', eb, hb, zb, cb, sb⟩ := dev_ok 3 b d (by omega) (by omega) c.2.1 s.2.1
  have qb := jb (d := d) (by omega) (by omega) c.2.1 s.2.1
  obtain ⟨c', ec, hc, zc, cc, sc⟩ := dev_ok 3 e d (by omega) (by omega) c.2.2 s.2.2
  have qc := jc (d := d) (by omega) (by omega) c.2.2 s.2.2
  have vn : vdM (.id a' b' c') = true := vd_of (d := d) ⟨ca, cb, cc⟩ ⟨sa, sb, sc⟩ (by simp only [ht, Hk] at *; omega) (by omega) (by simp only [of, T.size, T.sizeL, Sk] at *; omega)
  exact okD_node (of_kids_id a b e) (by simp only [okDL, qa, qb, qc, Bool.and_self]) (by show validB (.mk 10 0 (devL [of a, of b, of e])) = true; simp only [devL, ea, eb, ec]; exact vn) (dev_vd h' (by simp only [ht]; omega) c s)
 | pair a b e ja jb jc =>
  intro d h hd c s
  have h' := h
  simp only [ht] at h hd
  obtain ⟨a', ea, ha, za, ca, sa⟩ := dev_ok 3 a d (by omega) (by omega) c.1 s.1
  have qa := ja (d := d) (by omega) (by omega) c.1 s.1
  obtain ⟨b', eb, hb, zb, cb, sb⟩ := dev_ok 3 b d (by omega) (by omega) c.2.1 s.2.1
  have qb := jb (d := d) (by omega) (by omega) c.2.1 s.2.1
  obtain ⟨c', ec, hc, zc, cc, sc⟩ := dev_ok 3 e d (by omega) (by omega) c.2.2 s.2.2
  have qc := jc (d := d) (by omega) (by omega) c.2.2 s.2.2
  have vn : vdM (.pair a' b' c') = true := vd_of (d := d) ⟨ca, cb, cc⟩ ⟨sa, sb, sc⟩ (by simp only [ht, Hk] at *; omega) (by omega) (by simp only [of, T.size, T.sizeL, Sk] at *; omega)
  exact okD_node (of_kids_pair a b e) (by simp only [okDL, qa, qb, qc, Bool.and_self]) (by show validB (.mk 14 0 (devL [of a, of b, of e])) = true; simp only [devL, ea, eb, ec]; exact vn) (dev_vd h' (by simp only [ht]; omega) c s)
 | succ a ja =>
  intro d h hd c s
  have h' := h
  simp only [ht] at h hd
  obtain ⟨a', ea, ha, za, ca, sa⟩ := dev_ok 3 a d (by omega) (by omega) c s
  have qa := ja (d := d) (by omega) (by omega) c s
  have vn : vdM (.succ a') = true := vd_of (d := d) ca sa (by simp only [ht, Hk] at *; omega) (by omega) (by simp only [of, T.size, T.sizeL, Sk] at *; omega)
  exact okD_node (of_kids_succ a) (by simp only [okDL, qa, Bool.and_self]) (by show validB (.mk 8 0 (devL [of a])) = true; simp only [devL, ea]; exact vn) (dev_vd h' (by simp only [ht]; omega) c s)
 | refl a ja =>
  intro d h hd c s
  have h' := h
  simp only [ht] at h hd
  obtain ⟨a', ea, ha, za, ca, sa⟩ := dev_ok 3 a d (by omega) (by omega) c s
  have qa := ja (d := d) (by omega) (by omega) c s
  have vn : vdM (.refl a') = true := vd_of (d := d) ca sa (by simp only [ht, Hk] at *; omega) (by omega) (by simp only [of, T.size, T.sizeL, Sk] at *; omega)
  exact okD_node (of_kids_refl a) (by simp only [okDL, qa, Bool.and_self]) (by show validB (.mk 11 0 (devL [of a])) = true; simp only [devL, ea]; exact vn) (dev_vd h' (by simp only [ht]; omega) c s)
 | app a b ja jb =>
  intro d h hd c s
  have h' := h
  simp only [ht] at h hd
  obtain ⟨a', ea, ha, za, ca, sa⟩ := dev_ok 3 a d (by omega) (by omega) c.1 s.1
  have qa := ja (d := d) (by omega) (by omega) c.1 s.1
  obtain ⟨b', eb, hb, zb, cb, sb⟩ := dev_ok 3 b d (by omega) (by omega) c.2 s.2
  have qb := jb (d := d) (by omega) (by omega) c.2 s.2
  have vn : vdM (.app a' b') = true := vd_of (d := d) ⟨ca, cb⟩ ⟨sa, sb⟩ (by simp only [ht, Hk] at *; omega) (by omega) (by simp only [of, T.size, T.sizeL, Sk] at *; omega)
  exact okD_node (of_kids_app a b) (by simp only [okDL, qa, qb, Bool.and_self]) (by show validB (.mk 5 0 (devL [of a, of b])) = true; simp only [devL, ea, eb]; exact vn) (dev_vd h' (by simp only [ht]; omega) c s)
 | elim a b e f ja jb jc jf =>
  intro d h hd c s
  have h' := h
  simp only [ht] at h hd
  obtain ⟨a', ea, ha, za, ca, sa⟩ := dev_ok 3 a d (by omega) (by omega) c.1 s.1
  have qa := ja (d := d) (by omega) (by omega) c.1 s.1
  obtain ⟨b', eb, hb, zb, cb, sb⟩ := dev_ok 3 b d (by omega) (by omega) c.2.1 s.2.1
  have qb := jb (d := d) (by omega) (by omega) c.2.1 s.2.1
  obtain ⟨c', ec, hc, zc, cc, sc⟩ := dev_ok 3 e d (by omega) (by omega) c.2.2.1 s.2.2.1
  have qc := jc (d := d) (by omega) (by omega) c.2.2.1 s.2.2.1
  obtain ⟨f', ef, hf, zf, cf, sf⟩ := dev_ok 3 f d (by omega) (by omega) c.2.2.2 s.2.2.2
  have qf := jf (d := d) (by omega) (by omega) c.2.2.2 s.2.2.2
  have vn : vdM (.elim a' b' c' f') = true := vd_of (d := d) ⟨ca, cb, cc, cf⟩ ⟨sa, sb, sc, sf⟩ (by simp only [ht, Hk] at *; omega) (by omega) (by simp only [of, T.size, T.sizeL, Sk] at *; omega)
  exact okD_node (of_kids_elim a b e f) (by simp only [okDL, qa, qb, qc, qf, Bool.and_self]) (by show validB (.mk 9 0 (devL [of a, of b, of e, of f])) = true; simp only [devL, ea, eb, ec, ef]; exact vn) (dev_vd h' (by simp only [ht]; omega) c s)
 | move a b e ja jb jc =>
  intro d h hd c s
  have h' := h
  simp only [ht] at h hd
  obtain ⟨a', ea, ha, za, ca, sa⟩ := dev_ok 3 a d (by omega) (by omega) c.1 s.1
  have qa := ja (d := d) (by omega) (by omega) c.1 s.1
  obtain ⟨b', eb, hb, zb, cb, sb⟩ := dev_ok 3 b d (by omega) (by omega) c.2.1 s.2.1
  have qb := jb (d := d) (by omega) (by omega) c.2.1 s.2.1
  obtain ⟨c', ec, hc, zc, cc, sc⟩ := dev_ok 3 e d (by omega) (by omega) c.2.2 s.2.2
  have qc := jc (d := d) (by omega) (by omega) c.2.2 s.2.2
  have vn : vdM (.move a' b' c') = true := vd_of (d := d) ⟨ca, cb, cc⟩ ⟨sa, sb, sc⟩ (by simp only [ht, Hk] at *; omega) (by omega) (by simp only [of, T.size, T.sizeL, Sk] at *; omega)
  exact okD_node (of_kids_move a b e) (by simp only [okDL, qa, qb, qc, Bool.and_self]) (by show validB (.mk 12 0 (devL [of a, of b, of e])) = true; simp only [devL, ea, eb, ec]; exact vn) (dev_vd h' (by simp only [ht]; omega) c s)
 | fst a ja =>
  intro d h hd c s
  have h' := h
  simp only [ht] at h hd
  obtain ⟨a', ea, ha, za, ca, sa⟩ := dev_ok 3 a d (by omega) (by omega) c s
  have qa := ja (d := d) (by omega) (by omega) c s
  have vn : vdM (.fst a') = true := vd_of (d := d) ca sa (by simp only [ht, Hk] at *; omega) (by omega) (by simp only [of, T.size, T.sizeL, Sk] at *; omega)
  exact okD_node (of_kids_fst a) (by simp only [okDL, qa, Bool.and_self]) (by show validB (.mk 15 0 (devL [of a])) = true; simp only [devL, ea]; exact vn) (dev_vd h' (by simp only [ht]; omega) c s)
 | snd a ja =>
  intro d h hd c s
  have h' := h
  simp only [ht] at h hd
  obtain ⟨a', ea, ha, za, ca, sa⟩ := dev_ok 3 a d (by omega) (by omega) c s
  have qa := ja (d := d) (by omega) (by omega) c s
  have vn : vdM (.snd a') = true := vd_of (d := d) ca sa (by simp only [ht, Hk] at *; omega) (by omega) (by simp only [of, T.size, T.sizeL, Sk] at *; omega)
  exact okD_node (of_kids_snd a) (by simp only [okDL, qa, Bool.and_self]) (by show validB (.mk 16 0 (devL [of a])) = true; simp only [devL, ea]; exact vn) (dev_vd h' (by simp only [ht]; omega) c s)
theorem okD_succ {m : Tm} {d : Nat} (h : ht m ≤ 4) (hd : d + ht m ≤ 12) (c : cl d m) (s : srt m) : okD (of (.succ m)) = true := by
 obtain ⟨u, e, h1, h2, h3, h4⟩ := dev_ok 4 m d h (by omega) c s
 have hp := ht_pos m
 have v : vdM (.succ u) = true := vd_of (d := d) h3 h4 (by simp only [ht, Hk] at *; omega) (by omega) (by simp only [of, T.size, T.sizeL, Sk] at *; omega)
 refine okD_node (of_kids_succ m) (by simp only [okDL, okD_of h (by omega) c s, Bool.and_self]) ?_ ?_
 ·show validB (.mk 8 0 (devL [of m])) = true
  simp only [devL, e]; exact v
 ·rw [of_kids_succ, dev_node (not_rx (by omega)), devL, devL, e]; exact v
end Tm
end Go.Proofs.Ytgchmppmecnniaa
end
section
namespace Go.Proofs.Ytgchmppmecnniaa
open Go Go.Ab Go.Dk
def finI (k n : Int) (ts us : List T) : Option T :=
 if validB (.mk k n us) = true then (if Rx (.mk k n ts) then (if validB (contractT (.mk k n us)) = true then some (contractT (.mk k n us)) else none) else some (.mk k n us)) else none
mutual
def dvI : T → Option T
 | .mk k n ts => (dvIL ts).bind fun us => finI k n ts us
def dvIL : List T → Option (List T)
 | [] => some []
 | t :: ts => (dvI t).bind fun u => (dvIL ts).bind fun us => some (u :: us)
end
theorem parL_dev : ∀ ts : List T, ParL ts (devL ts)
 | [] => .nil
 | t :: ts => .cons (par_dev t) (parL_dev ts)
theorem rx_dev {k n : Int} {ts : List T} (h : Rx (.mk k n ts)) : Rx (.mk k n (devL ts)) := h.par (parL_dev ts)
mutual
theorem dvI_dev : ∀ (t x : T), dvI t = some x → x = devT t ∧ validB x = true
 | .mk k n ts, x, h => by
  rw [dvI] at h
  obtain ⟨us, h1, h2⟩ := Option.bind_eq_some_iff.1 h
  obtain ⟨rfl, _⟩ := dvIL_dev ts us h1
  unfold finI at h2
  split at h2
  ·rename_i hv
   split at h2
   ·rename_i hr
    split at h2
    ·rename_i hc
     rw [devT, if_pos hr]
     exact ⟨(Option.some.inj h2).symm, by rw [← Option.some.inj h2]; exact hc⟩
    ·cases h2
   ·rename_i hr
    rw [devT, if_neg hr]
    exact ⟨(Option.some.inj h2).symm, by rw [← Option.some.inj h2]; exact hv⟩
  ·cases h2
theorem dvIL_dev : ∀ (ts us : List T), dvIL ts = some us → us = devL ts ∧ ∀ u ∈ us, validB u = true
 | [], us, h => by
  rw [dvIL] at h
  rw [← Option.some.inj h]
  exact ⟨rfl, fun u hu => by cases hu⟩
 | t :: ts, us, h => by
  rw [dvIL] at h
  obtain ⟨u, h1, h2⟩ := Option.bind_eq_some_iff.1 h
  obtain ⟨us', h3, h4⟩ := Option.bind_eq_some_iff.1 h2
  obtain ⟨rfl, v1⟩ := dvI_dev t u h1
  obtain ⟨rfl, v2⟩ := dvIL_dev ts us' h3
  rw [← Option.some.inj h4]
  refine ⟨rfl, fun u hu => ?_⟩
  rcases List.mem_cons.1 hu with rfl | hu
  ·exact v1
  ·exact v2 u hu
end
mutual
theorem dvI_ok : ∀ t : T, okD t = true → dvI t = some (devT t)
 | .mk k n ts, h => by
  simp only [okD, Bool.and_eq_true] at h
  rw [dvI, dvIL_ok ts h.1]
  show finI k n ts (devL ts) = _
  unfold finI
  rw [if_pos h.2.1, devT]
  split
  ·rename_i hr
   have h3 := h.2.2
   rw [devT, if_pos hr] at h3
   rw [if_pos h3]
  ·rfl
theorem dvIL_ok : ∀ ts : List T, okDL ts = true → dvIL ts = some (devL ts)
 | [], _ => rfl
 | t :: ts, h => by
  simp only [okDL, Bool.and_eq_true] at h
  rw [dvIL, dvI_ok t h.1, dvIL_ok ts h.2]; rfl
end
def junk0 : T := .mk 0 0 []
def dvA (o : Option T) : OR := some ([tm (o.getD junk0), bl o.isSome], [])
theorem sizeL_valid {us : List T} (h : ∀ u ∈ us, validB u = true) : T.sizeL us ≤ us.length * 400 := by
 induction us with
 | nil => simp [T.sizeL]
 | cons u us ih =>
  have h1 := validB_size (h u List.mem_cons_self)
  have h2 := ih fun v hv => h v (List.mem_cons_of_mem _ hv)
  rw [T.sizeL, List.length_cons]; omega
theorem dv_end {n : Nat} (hn : 3200000 ≤ n) {k n0 : Int} {ts us : List T} (hv : validB (.mk k n0 ts) = true) (hr : Rx (.mk k n0 ts) → Rx (.mk k n0 us)) (hz : (T.mk k n0 us).size ≤ 200000) :
   ((FF n 38 [.agg [.int .i64 k, .int .i64 n0, .fr (.ts us)]] []).bind fun x0 =>
    rBool x0.1 fun x1 x2 => nilV x2 (nilO x0.2 (cond (!x1) (some ([.agg [.int .i64 0, .int .i64 0, .fr (.ts [])], .one (.bool false)], []))
    ((FF n 80 [.agg [.int .i64 k, .int .i64 n0, .fr (.ts ts)]] []).bind fun x3 =>
    rInt .i64 x3.1 fun x4 x5 => nilV x5 (nilO x3.2 (cond (decide (x4 = 0)) (some ([.agg [.int .i64 k, .int .i64 n0, .fr (.ts us)], .one (.bool true)], []))
    ((FF n 81 [.agg [.int .i64 k, .int .i64 n0, .fr (.ts us)]] []).bind fun x6 =>
    rTerm x6.1 fun x7 x8 => rBool x8 fun x9 x10 => nilV x10 (nilO x6.2 (some ([.agg [.int .i64 x7.k, .int .i64 x7.n, .fr (.ts x7.kids)], .one (.bool x9)], [])))))))))) = dvA (finI k n0 ts us) := by
 have h1 := f_TermValid (n := n) (t := .mk k n0 us) (by omega)
 have h2 := f_redex (n := n) (by omega) hv
 simp only [tm, mk_k, mk_n, mk_kids] at h1 h2
 rw [h1]
 simp only [evt]
 unfold finI
 cases hvu : validB (.mk k n0 us) with
 | false => rw [if_neg (by simp)]; rfl
 | true =>
  rw [if_pos rfl]
  simp only [Bool.not_true, cond_false]
  rw [h2]
  simp only [evt]
  by_cases hx : Rx (.mk k n0 ts)
  ·have h3 := f_contract (n := n) (by omega) hvu (hr hx)
   simp only [tm, mk_k, mk_n, mk_kids] at h3
   rw [decide_eq_false ((rx_iff _).2 hx), cond_false, h3, if_pos hx]
   simp only [evt]
   unfold okT
   split
   ·rename_i hc; rw [hc]; rfl
   ·rename_i hc; rw [show validB (contractT (.mk k n0 us)) = false by simpa using hc]; rfl
  ·rw [decide_eq_true (show redexT (.mk k n0 ts) = 0 from Decidable.byContradiction fun h => hx ((rx_iff _).1 h)), cond_true, if_neg hx]
   rfl
theorem dv_loop (n : Nat) (hn : 3200000 ≤ n) (k n0 : Int) (ts : List T) (hv : validB (.mk k n0 ts) = true) (z1 z2 : Int) (l0 : List T) (h : ∀ u ∈ ts, FF n 51 [tm u] [] = dvA (dvI u)) :
   ∀ g m (i : Nat) (acc : List T), g < m → i + g = ts.length → acc.length = i → (∀ u ∈ acc, validB u = true) → (∀ us, dvIL (ts.drop i) = some us → dvIL ts = some (acc ++ us)) →
   L_impl_develop_0_foo n m ts ts.length i k n0 ts z1 z2 l0 k n0 acc = dvA ((dvIL (ts.drop i)).bind fun us => finI k n0 ts (acc ++ us))
 | g, 0, i, acc, hg, _, _, _, _ => by omega
 | 0, m + 1, i, acc, _, hi, ha, hav, hall => by
  have hsz := validB_size hv
  have hlt := T.sizeL_len ts
  simp only [T.size] at hsz
  have hz := sizeL_valid hav
  have hl8 : acc.length * 400 ≤ 400 * 400 := Nat.mul_le_mul_right 400 (by omega)
  have hd : dvIL (ts.drop i) = some [] := by rw [List.drop_of_length_le (by omega)]; rfl
  have hdev : acc = devL ts := by
   have := (dvIL_dev ts _ (hall [] hd)).1
   rwa [List.append_nil] at this
  rw [L_impl_develop_0_foo_eq, decide_eq_false (show ¬ (i : Int) < ts.length by omega), cond_false, hd]
  have e := dv_end (n := n) hn hv (us := acc) (fun hr => by rw [hdev]; exact rx_dev hr) (by simp only [T.size]; omega)
  simp only [Option.bind_some, List.append_nil]
  exact e
 | g + 1, m + 1, i, acc, hg, hi, ha, hav, hall => by
  have hlt : i < ts.length := by omega
  have hsz := validB_size hv
  have hll := T.sizeL_len ts
  simp only [T.size] at hsz
  have w : IntKind.i64.wrap ((i : Int) + 1) = ((i + 1 : Nat) : Int) := wrap64 (by omega)
  have hd := List.drop_eq_getElem_cons hlt
  have hu := h _ (List.getElem_mem hlt)
  rw [L_impl_develop_0_foo_eq, decide_eq_true (show (i : Int) < ts.length by omega), cond_true, decide_eq_true (show (0 : Int) ≤ i by omega), cond_true, Int.toNat_natCast, List.getElem?_eq_getElem hlt, w, hd]
  simp only [tm] at hu
  simp only [Option.bind_some, hu, dvA, tm]
  rw [dvIL]
  cases hx : dvI ts[i] with
  | none => simp only [evt, Option.isSome_none, Option.bind_none, Option.getD_none]; rfl
  | some u =>
   have nx := dv_loop n hn k n0 ts hv z1 z2 l0 h g m (i + 1) (acc ++ [u]) (by omega) (by omega) (by simp [ha]) (fun v hv' => by
    rcases List.mem_append.1 hv' with h' | h'
    ·exact hav v h'
    ·rw [List.mem_singleton.1 h']; exact (dvI_dev _ _ hx).2) (fun us hus => by
    have := hall (u :: us) (by rw [hd, dvIL, hx, hus]; rfl)
    rwa [List.append_assoc, List.singleton_append])
   simp only [evt, Option.isSome_some, Option.getD_some, Bool.not_true, cond_false]
   rw [roomB_ok (by simp; omega), cond_true]
   refine nx.trans ?_
   cases hy : dvIL (ts.drop (i + 1)) with
   | none => rfl
   | some us => simp only [Option.bind_some, List.append_assoc, List.singleton_append]; rfl
theorem f_develop (t : T) : ∀ {n : Nat}, t.size + 3200000 ≤ n → validB t = true → FF n 51 [tm t] [] = dvA (dvI t) := by
 induction t using T.ind with | h t ih =>
 intro n hn hv
 obtain ⟨n, rfl⟩ := pos_succ (show 0 < n by omega)
 have hsz := T.size_eq t
 have hll := T.sizeL_len t.kids
 have hvz := validB_size hv
 cases t with
 | mk k n0 ts =>
  simp only [mk_kids] at hsz hll ih
  rw [E_impl_develop]
  have := dv_loop n (by omega) k n0 ts hv 0 0 [] (fun u hu => by
   have := T.sizeL_mem hu
   exact ih u hu (by omega) (validB_kid hv hu)) ts.length n 0 [] (by omega) (by omega) rfl (by simp) (fun us h => by simpa using h)
  rw [List.drop_zero] at this
  simp only [mk_k, mk_n, mk_kids, tm]
  refine this.trans ?_
  rw [dvI]; rfl
theorem dvS_loop (n : Nat) (hn : 3200000 ≤ n) (k n0 : Int) (ts : List T) (hv : validB (.mk k n0 ts) = true) (hok : validB (.mk k n0 (devL ts)) = true) (hok2 : validB (devT (.mk k n0 ts)) = true) (z1 z2 : Int) (l0 : List T) (h : ∀ u ∈ ts, FF n 52 [tm u] [] = some ([tm (devT u), bl true], [])) :
   ∀ g m (i : Nat) (acc : List T), g < m → i + g = ts.length → acc.length = i → devL ts = acc ++ devL (ts.drop i) →
   L_spec_l4Develop_0_foo n m (!decide (redexT (.mk k n0 ts) = 0)) i k n0 ts z1 z2 l0 k n0 acc = some ([tm (devT (.mk k n0 ts)), bl true], [])
 | g, 0, i, acc, hg, _, _, _ => by omega
 | 0, m + 1, i, acc, _, hi, ha, hacc => by
  have hacc : devL ts = acc := by rw [hacc, List.drop_of_length_le (by omega), devL, List.append_nil]
  subst hacc
  have z1' := validB_size hok
  have z2' := validB_size hok2
  have h1 := f_TermValidS (n := n) (t := .mk k n0 (devL ts)) (by omega) (by omega)
  have h2 := f_TermValidS (n := n) (t := devT (.mk k n0 ts)) (by omega) (by omega)
  rw [hok] at h1
  rw [hok2] at h2
  rw [L_spec_l4Develop_0_foo_eq, decide_eq_false (show ¬ (i : Int) < ts.length by omega), cond_false]
  by_cases hx : Rx (.mk k n0 ts)
  ·have hr := rx_dev hx
   have h3 := f_l3Contract (n := n - 1) (by omega) hok hr
   have h4 := f_l3Redex (n := n - 1) (by omega) hok
   obtain ⟨n', e⟩ : ∃ n', n = n' + 1 := ⟨n - 1, by omega⟩
   have hw : FF n 83 [.agg [.int .i64 k, .int .i64 n0, .fr (.ts (devL ts))]] [] = some ([tm (contractT (.mk k n0 (devL ts)))], []) := by
    subst e
    rw [show n' + 1 - 1 = n' from rfl] at h3 h4
    simp only [tm, mk_k, mk_n, mk_kids] at h3 h4
    rw [E_spec_l4Whole, h4]
    simp only [evt]
    rw [decide_eq_false ((rx_iff _).2 hr), cond_false, h3]
    simp only [evt]
   have hd : devT (.mk k n0 ts) = contractT (.mk k n0 (devL ts)) := by rw [devT, if_pos hx]
   rw [decide_eq_false ((rx_iff _).2 hx), Bool.not_false, cond_true, hw]
   simp only [evt]
   rw [← hd, h2]
   simp only [evt]
  ·have hd : devT (.mk k n0 ts) = .mk k n0 (devL ts) := by rw [devT, if_neg hx]
   rw [decide_eq_true (show redexT (.mk k n0 ts) = 0 from Decidable.byContradiction fun h => hx ((rx_iff _).1 h)), Bool.not_true, cond_false]
   simp only [tm, mk_k, mk_n, mk_kids] at h1
   rw [h1, hd]
   simp only [evt]
   rfl
 | g + 1, m + 1, i, acc, hg, hi, ha, hacc => by
  have hlt : i < ts.length := by omega
  have hsz := validB_size hv
  have hll := T.sizeL_len ts
  simp only [T.size] at hsz
  have w : IntKind.i64.wrap ((i : Int) + 1) = ((i + 1 : Nat) : Int) := wrap64 (by omega)
  have hd := List.drop_eq_getElem_cons hlt
  have hu := h _ (List.getElem_mem hlt)
  have nx := dvS_loop n hn k n0 ts hv hok hok2 z1 z2 l0 h g m (i + 1) (acc ++ [devT ts[i]]) (by omega) (by omega) (by simp [ha]) (by rw [hacc, hd, devL]; simp)
  rw [L_spec_l4Develop_0_foo_eq, decide_eq_true (show (i : Int) < ts.length by omega), cond_true, decide_eq_true (show (0 : Int) ≤ i by omega), cond_true, Int.toNat_natCast, List.getElem?_eq_getElem hlt, w]
  simp only [tm] at hu
  simp only [Option.bind_some, hu, tm]
  simp only [evt]
  rw [roomB_ok (by simp; omega), cond_true]
  exact nx
theorem f_l4Develop (t : T) : ∀ {n : Nat}, t.size + 3200000 ≤ n → validB t = true → okD t = true → FF n 52 [tm t] [] = some ([tm (devT t), bl true], []) := by
 induction t using T.ind with | h t ih =>
 intro n hn hv ho
 obtain ⟨n, rfl⟩ := pos_succ (show 0 < n by omega)
 have hsz := T.size_eq t
 have hvz := validB_size hv
 have hr := f_l3Redex (n := n) (by omega) hv
 cases t with
 | mk k n0 ts =>
  have hll := T.sizeL_len ts
  simp only [mk_kids] at hsz ih
  simp only [tm, mk_k, mk_n, mk_kids] at hr
  simp only [okD, Bool.and_eq_true] at ho
  have okl : ∀ {ts : List T}, okDL ts = true → ∀ u ∈ ts, okD u = true := by
   intro ts
   induction ts with
   | nil => intro _ u hu; cases hu
   | cons t ts ih =>
    intro h u hu
    simp only [okDL, Bool.and_eq_true] at h
    rcases List.mem_cons.1 hu with rfl | hu
    ·exact h.1
    ·exact ih h.2 u hu
  have := dvS_loop n (by omega) k n0 ts hv ho.2.1 ho.2.2 0 0 [] (fun u hu => by
   have := T.sizeL_mem hu
   exact ih u hu (by omega) (validB_kid hv hu) (okl ho.1 u hu)) ts.length n 0 [] (by omega) (by omega) rfl (by simp)
  simp only [mk_k, mk_n, mk_kids, tm]
  rw [E_spec_l4Develop, hr]
  simp only [evt]
  exact this
def dvR (t : T) : Option T := if validB t = true then dvI t else none
theorem f_DevelopTerm {n : Nat} {t : T} (hn : t.size + 3200010 ≤ n) : FF n 17 [tm t] [] = dvA (dvR t) := by
 obtain ⟨n, rfl⟩ := pos_succ (show 0 < n by omega)
 have hv := f_TermValid (n := n) (t := t) (by omega)
 rw [E_impl_DevelopTerm, hv]
 simp only [evt]
 unfold dvR
 cases h : validB t with
 | false => rfl
 | true =>
  have hd := f_develop t (n := n) (by omega) h
  simp only [Bool.not_true, cond_false, if_true]
  rw [hd]
  unfold dvA
  simp only [evt]
theorem f_DevelopTermS {n : Nat} {t : T} (hn : t.size + 3200010 ≤ n) (hz : t.size ≤ 1000000) (ho : validB t = true → okD t = true) : FF n 18 [tm t] [] = dvA (dvR t) := by
 obtain ⟨n, rfl⟩ := pos_succ (show 0 < n by omega)
 have hv := f_TermValidS (n := n) (t := t) (by omega) (by omega)
 rw [E_spec_DevelopTerm, hv]
 simp only [evt]
 unfold dvR
 cases h : validB t with
 | false => rfl
 | true =>
  have hd := f_l4Develop t (n := n) (by omega) h (ho h)
  simp only [Bool.not_true, cond_false, if_true]
  rw [hd, dvI_ok t (ho h)]
  unfold dvA
  simp only [evt]
  rfl
end Go.Proofs.Ytgchmppmecnniaa
end
section
namespace Go.Proofs.Ytgchmppmecnniaa
open Go Go.Ab Go.Dk
def paB (s : ByteArray) (m : Tm) : Bool := decide (s.size ≤ 300) && (decide ((of m).size ≤ 500) && (match pa s 30 0 with
 | some x => T.beq x.1 (of m) && decide (x.2 = s.size)
 | none => false))
theorem paB_ok {s : ByteArray} {m : Tm} (h : paB s m = true) : s.size ≤ 300 ∧ (of m).size ≤ 500 ∧ pa s 30 0 = some (of m, s.size) := by
 simp only [paB, Bool.and_eq_true, decide_eq_true_eq] at h
 obtain ⟨h1, h2, h3⟩ := h
 refine ⟨h1, h2, ?_⟩
 split at h3
 ·rename_i x e
  simp only [Bool.and_eq_true, decide_eq_true_eq] at h3
  rw [e, ← (T.beq_iff _ _).1 h3.1, ← h3.2]
 ·cases h3
def base3 : List Tm := [
 .app (.lam .nat (.lam .nat (.elim (.lam .nat .nat) (.var 1) (.lam .nat (.lam .nat (.succ (.var 0)))) (.var 0)))) (.succ (.succ .zero)),
 .app (.app (.lam .nat (.lam .nat (.elim (.lam .nat .nat) (.var 1) (.lam .nat (.lam .nat (.succ (.var 0)))) (.var 0)))) (.succ (.succ .zero))) (.succ .zero),
 .app (.lam .nat (.succ (.var 0))) (.app (.lam .nat (.succ (.succ (.var 0)))) .zero),
 .fst (.pair (.sig .nat .nat) (.app (.lam .nat (.var 0)) .zero) (.succ .zero)),
 .snd (.pair (.sig .nat .nat) .zero (.app (.lam .nat (.succ (.var 0))) .zero)),
 .move (.lam .nat (.id .nat .zero (.var 0))) (.refl .zero) (.refl .zero),
 .app (.lam (.sort 0) (.lam (.var 0) (.var 0))) .nat,
 .app (.lam .nat (.app (.var 0) (.var 0))) (.lam .nat (.var 0)),
 .app (.lam .nat (.app (.var 0) (.var 0))) (.lam .nat (.app (.var 0) (.var 0))),
 .elim (.lam .nat (.sort 0)) .nat (.lam .nat (.lam (.sort 0) (.pi .nat (.var 1)))) (.succ (.succ (.succ .zero))),
 .lam .nat (.app (.lam .nat (.app (.var 0) (.var 1))) (.var 0)),
 .app (.app (.lam (.pi .nat .nat) (.lam .nat (.app (.var 1) (.app (.var 1) (.var 0))))) (.lam .nat (.succ (.var 0)))) (.var 0),
 .elim (.lam .nat .nat) .zero (.lam .nat (.lam .nat (.var 1))) (.app (.lam .nat (.succ (.var 0))) (.var 2))]
def mutB : Tm → Bool
 | .pi a b => okD (of (.app a b))
 | .sig a b => okD (of (.app a b))
 | .lam a b => okD (of (.app a b))
 | _ => true
theorem base3_ok : (base3.all fun m => okD (of m) && (okD (of (.succ m)) && mutB m)) = true := by decide +kernel
def Dd (v : T) : Prop := ∃ m : Tm, v = of m ∧ (m ∈ base3 ∨ (Tm.ht m ≤ 4 ∧ Tm.lw m))
theorem okD_leaf {m : Tm} (h : Tm.ht m ≤ 1) (v : validB (of m) = true) : okD (of m) = true := by
 have leaf : ∀ {m : Tm} {k n : Int}, of m = .mk k n [] → ¬ Rx (.mk k n []) → validB (of m) = true → okD (of m) = true := fun e hr v => by
  refine okD_node e rfl ?_ ?_
  ·rw [devL, ← e]; exact v
  ·rw [e, dev_node hr, devL, ← e]; exact v
 rcases Tm.ht_one h with ⟨n, rfl⟩ | ⟨n, rfl⟩ | rfl | rfl
 ·exact leaf (k := 1) rfl (not_rx (by omega)) v
 ·exact leaf (k := 2) rfl (not_rx (by omega)) v
 ·exact leaf (k := 6) rfl (not_rx (by omega)) v
 ·exact leaf (k := 7) rfl (not_rx (by omega)) v
theorem dd_ok {v y : T} (h : Dd v) (hm : MutT v y) (hv : validB y = true) : okD y = true ∧ ∃ m, y = of m := by
 obtain ⟨m, rfl, hd⟩ := h
 obtain ⟨m', rfl, mt⟩ := mut_of hm hv
 refine ⟨?_, m', rfl⟩
 rcases hd with hd | ⟨h4, lw⟩
 ·have k := List.all_eq_true.1 base3_ok m hd
  simp only [Bool.and_eq_true] at k
  rcases mt with rfl | rfl | h1 | ⟨a, b, e, rfl⟩
  ·exact k.1
  ·exact k.2.1
  ·exact okD_leaf h1 hv
  ·rcases e with rfl | rfl | rfl <;> exact k.2.2
 ·have c := Tm.lw_cl (d := 4) lw (by omega)
  have s := Tm.lw_srt lw
  rcases mt with rfl | rfl | h1 | ⟨a, b, e, rfl⟩
  ·exact Tm.okD_of (d := 4) h4 (by omega) c s
  ·exact Tm.okD_succ (d := 4) h4 (by omega) c s
  ·exact okD_leaf h1 hv
  ·have : Tm.ht (.app a b) ≤ 4 ∧ Tm.lw (.app a b) := by rcases e with rfl | rfl | rfl <;> exact ⟨h4, lw⟩
   exact Tm.okD_of (d := 4) this.1 (by omega) (Tm.lw_cl this.2 (by omega)) (Tm.lw_srt this.2)
theorem tx3 {b : List ByteArray} (h : (b.all fun s => base3.any fun m => paB s m) = true) : ∀ s ∈ b, ∃ m ∈ base3, paB s m = true := fun s hs => by
 simpa using List.all_eq_true.1 h s hs
theorem x_l3Draw {n : Nat} (hn : 10000 ≤ n) {l : List UInt8} {p m : Int} (hr : RdOk l p m) (hm : m ≤ 300000000000) : Tot (FF n 35 [.one (.ptr 0 0)] [rdr l p]) (fun r => ∃ (t : T) (p : Int), r = ([tm t], [rdr l p]) ∧ t.size ≤ 500 ∧ Dd t ∧ RdOk l p (m + 300)) := by
 refine tot_step (C := 9999) (by omega) fun n hn e => ?_
 rw [E_spec_l3Draw]
 refine tot_call (t_l3Plus (by omega)) ?_
 rintro _ rfl
 simp only [evt]
 refine tot_cond (fun _ => ?_) (fun hq => by exfalso; revert hq; decide +kernel)
 refine tot_cond (fun _ => ?_) (fun hq => by exfalso; revert hq; decide +kernel)
 refine tot_call (t_l3Plus (by omega)) ?_
 rintro _ rfl
 simp only [evt]
 refine tot_cond (fun _ => ?_) (fun hq => by exfalso; revert hq; decide +kernel)
 refine tot_cond (fun _ => ?_) (fun hq => by exfalso; revert hq; decide +kernel)
 refine tot_call (t_of (by omega) hr (by omega) (by simp) (by simp)) ?_
 rintro _ ⟨s, p1, rfl, hs, hr1⟩
 obtain ⟨b, hb, hpa⟩ := tx3 (by decide +kernel) s hs
 clear hs
 obtain ⟨q1, q2, q3⟩ := paB_ok hpa
 have hany : ∀ {p m : Int}, RdOk l p m → m ≤ 400000000000 → Tot (FF n 72 [.one (.ptr 0 0)] [rdr l p]) (fun r => ∃ (t : T) (p : Int), r = ([tm t], [rdr l p]) ∧ t.size ≤ 500 ∧ Dd t ∧ RdOk l p (m + 256)) := fun hr hm => by
  refine tot_mono (x_l1Any (by omega) hr (by omega)) ?_
  rintro _ ⟨t, p, rfl, hv, ⟨m, rfl, h4, lw⟩, hr⟩
  exact ⟨_, p, rfl, by have := validB_size hv; omega, ⟨m, rfl, .inr ⟨h4, lw⟩⟩, hr⟩
 simp only [evt]
 refine tot_call (t_ParseX (s := s) (t := of b) (by omega) (by omega) q2 q3) ?_
 rintro _ ⟨t, c, rfl, hc⟩
 simp only [evt]
 refine tot_cond (fun hq => ?_) (fun hq => ?_)
 ·refine tot_call (t_pick (by omega) hr1 (by omega) (by omega)) ?_
  rintro _ ⟨v, p2, rfl, hv0, hv1, hr2⟩
  simp only [evt]
  refine tot_cond (fun _ => tot_some ?_) (fun _ => ?_)
  ·obtain rfl := hc hq
   exact ⟨_, p2, rfl, q2, ⟨b, rfl, .inl hb⟩, hr2.mono (by omega)⟩
  ·refine tot_call (hany hr2 (by omega)) ?_
   rintro _ ⟨u, p3, rfl, h1, h2, hr3⟩
   simp only [evt]
   exact tot_some ⟨u, p3, rfl, h1, h2, hr3.mono (by omega)⟩
 ·refine tot_call (hany hr1 (by omega)) ?_
  rintro _ ⟨u, p3, rfl, h1, h2, hr3⟩
  simp only [evt]
  exact tot_some ⟨u, p3, rfl, h1, h2, hr3.mono (by omega)⟩
abbrev IsDev (r : List V1 × List AObj) : Prop := ∃ t : T, r = ([tm t], []) ∧ t.size ≤ 1000 ∧ (validB t = true → okD t = true ∧ ∃ m, t = of m)
theorem x_DrawDevelopTerm {n : Nat} (hn : 20002 ≤ n) (l : List UInt8) : Tot (FF n 16 [.one (.fr (.bs l))] []) IsDev := by
 have h0 : ∀ {n : Nat}, 20001 ≤ n → Tot (FF n 50 [.one (.fr (.bs l))] []) IsDev := fun {n} hn => by
  refine tot_step (C := 20000) (by omega) fun n hn e => ?_
  rw [E_spec_DrawRedexOf]
  refine tot_call (t_open (by omega) l) ?_
  rintro _ ⟨l', rfl, hr⟩
  simp only [evt]
  refine tot_call (x_l3Draw (by omega) hr (by omega)) ?_
  rintro _ ⟨t, p, rfl, hz, hd, hr⟩
  simp only [evt]
  refine tot_call (x_l1Mutate (t := t) (by omega) (by omega) hr (by omega)) ?_
  rintro _ ⟨y, p, rfl, hy, hr⟩
  simp only [evt]
  exact tot_some ⟨y, rfl, by have := hy.size; omega, fun hv => dd_ok hd hy hv⟩
 refine tot_step (C := 20001) (by omega) fun n hn e => ?_
 rw [E_spec_DrawDevelopTerm]
 refine tot_call (h0 (by omega)) ?_
 rintro _ ⟨t, rfl, h1, h2⟩
 simp only [evt]
 exact tot_some ⟨t, rfl, h1, h2⟩
end Go.Proofs.Ytgchmppmecnniaa
end
section
namespace Go.Proofs.Ytgchmppmecnniaa
open Go Go.Ab Go.Dk
mutual
def clF : T → Int → Bool
 | .mk k n ks, d => (!(decide (k = 1) && decide (d ≤ n))) && clL ks k 0 d
def clL : List T → Int → Nat → Int → Bool
 | [], _, _, _ => true
 | t :: ts, k, i, d => clF t (d + under k i) && clL ts k (i + 1) d
end
theorem clF_eq (t : T) (d : Int) : clF t d = ((!(decide (t.k = 1) && decide (d ≤ t.n))) && clL t.kids t.k 0 d) := by cases t; simp only [clF]; rfl
theorem cl_of : ∀ (t : Tm) (d : Nat), Tm.cl d t → clF (of t) d = true
 | .var n, d, h => by
  have h : n < d := h
  simp only [of, clF, clL, Bool.and_true, decide_true, Bool.true_and, Bool.not_eq_true', decide_eq_false_iff_not]; omega
 | .sort n, d, h => rfl
 | .nat, d, h => rfl
 | .zero, d, h => rfl
 | .succ a, d, h => by have := cl_of a d h; simp only [of, clF, clL, show under 8 0 = 0 from rfl, Int.add_zero, this]; rfl
 | .refl a, d, h => by have := cl_of a d h; simp only [of, clF, clL, show under 11 0 = 0 from rfl, Int.add_zero, this]; rfl
 | .fst a, d, h => by have := cl_of a d h; simp only [of, clF, clL, show under 15 0 = 0 from rfl, Int.add_zero, this]; rfl
 | .snd a, d, h => by have := cl_of a d h; simp only [of, clF, clL, show under 16 0 = 0 from rfl, Int.add_zero, this]; rfl
 | .pi a b, d, h => by have h1 := cl_of a d h.1; have h2 : clF (of b) ((d : Int) + 1) = true := cl_of b (d + 1) h.2; simp only [of, clF, clL, show under 3 0 = 0 from rfl, show under 3 (0 + 1) = 1 from rfl, Int.add_zero, h1, h2]; rfl
 | .sig a b, d, h => by have h1 := cl_of a d h.1; have h2 : clF (of b) ((d : Int) + 1) = true := cl_of b (d + 1) h.2; simp only [of, clF, clL, show under 13 0 = 0 from rfl, show under 13 (0 + 1) = 1 from rfl, Int.add_zero, h1, h2]; rfl
 | .lam a b, d, h => by have h1 := cl_of a d h.1; have h2 : clF (of b) ((d : Int) + 1) = true := cl_of b (d + 1) h.2; simp only [of, clF, clL, show under 4 0 = 0 from rfl, show under 4 (0 + 1) = 1 from rfl, Int.add_zero, h1, h2]; rfl
 | .app a b, d, h => by have h1 := cl_of a d h.1; have h2 := cl_of b d h.2; simp only [of, clF, clL, show under 5 0 = 0 from rfl, show under 5 (0 + 1) = 0 from rfl, Int.add_zero, h1, h2]; rfl
 | .id a b c, d, h => by have h1 := cl_of a d h.1; have h2 := cl_of b d h.2.1; have h3 := cl_of c d h.2.2; simp only [of, clF, clL, show under 10 0 = 0 from rfl, show under 10 (0 + 1) = 0 from rfl, show under 10 (0 + 1 + 1) = 0 from rfl, Int.add_zero, h1, h2, h3]; rfl
 | .move a b c, d, h => by have h1 := cl_of a d h.1; have h2 := cl_of b d h.2.1; have h3 := cl_of c d h.2.2; simp only [of, clF, clL, show under 12 0 = 0 from rfl, show under 12 (0 + 1) = 0 from rfl, show under 12 (0 + 1 + 1) = 0 from rfl, Int.add_zero, h1, h2, h3]; rfl
 | .pair a b c, d, h => by have h1 := cl_of a d h.1; have h2 := cl_of b d h.2.1; have h3 := cl_of c d h.2.2; simp only [of, clF, clL, show under 14 0 = 0 from rfl, show under 14 (0 + 1) = 0 from rfl, show under 14 (0 + 1 + 1) = 0 from rfl, Int.add_zero, h1, h2, h3]; rfl
 | .elim a b c e, d, h => by have h1 := cl_of a d h.1; have h2 := cl_of b d h.2.1; have h3 := cl_of c d h.2.2.1; have h4 := cl_of e d h.2.2.2; simp only [of, clF, clL, show under 9 0 = 0 from rfl, show under 9 (0 + 1) = 0 from rfl, show under 9 (0 + 1 + 1) = 0 from rfl, show under 9 (0 + 1 + 1 + 1) = 0 from rfl, Int.add_zero, h1, h2, h3, h4]; rfl
theorem und_bd (k : Int) (i : Nat) : 0 ≤ under k i ∧ under k i ≤ 1 := by unfold under; split <;> omega
mutual
theorem clF_mono : ∀ (t : T) {d e : Int}, clF t d = true → d ≤ e → clF t e = true
 | .mk k n ks, d, e, h, hd => by
  simp only [clF, Bool.and_eq_true, Bool.not_eq_true', Bool.and_eq_false_iff, decide_eq_false_iff_not] at h ⊢
  exact ⟨h.1.imp id (fun h => by omega), clL_mono ks h.2 hd⟩
theorem clL_mono : ∀ (ts : List T) {k : Int} {i : Nat} {d e : Int}, clL ts k i d = true → d ≤ e → clL ts k i e = true
 | [], _, _, _, _, _, _ => rfl
 | t :: ts, k, i, d, e, h, hd => by
  simp only [clL, Bool.and_eq_true] at h ⊢
  exact ⟨clF_mono t h.1 (by omega), clL_mono ts h.2 hd⟩
end
abbrev FreeTo (h L : Int) (P : Int → Prop) (o : OR) : Prop := ∃ h', o = some ([], [.cells [.int .i64 h']]) ∧ h ≤ h' ∧ (h ≤ L → h' ≤ L) ∧ P h'
theorem free_loop (n : Nat) (hn : 10 ≤ n) (L d k k1 n1 : Int) (ks0 : List T) (ts : List T) (hl : ts.length ≤ 1000000) (hd : 0 ≤ d ∧ d ≤ 1000000) (hh : ∀ u ∈ ts, ∀ d' h : Int, d ≤ d' → d' ≤ d + 1 → 0 ≤ h → h ≤ L → clF u (d' + L) = true → FreeTo h L (fun h' => clF u (d' + h') = true) (FF n 86 [tm u, nt d', .one (.fn 87 [0])] [.cells [.int .i64 h]])) (hL : 0 ≤ L ∧ L ≤ 1000000) :
   ∀ g m (i : Nat) (h : Int), g < m → i + g = ts.length → 0 ≤ h → h ≤ L → clL (ts.drop i) k i (d + L) = true → FreeTo h L (fun h' => clL (ts.drop i) k i (d + h') = true) (L_impl_free_impl_maxFree_1_0 n m d ts ts.length i h k n1 ks0)
 | g, 0, i, h, hg, _, _, _, _ => by omega
 | 0, m + 1, i, h, _, hi, h0, h1, hc => by
  rw [L_impl_free_impl_maxFree_1_0_eq, decide_eq_false (show ¬ (i : Int) < ts.length by omega)]
  exact ⟨h, rfl, Int.le_refl _, fun h => h, by rw [List.drop_of_length_le (by omega)]; rfl⟩
 | g + 1, m + 1, i, h, hg, hi, h0, h1, hc => by
  have hlt : i < ts.length := by omega
  have hu := und_bd k i
  rw [List.drop_eq_getElem_cons hlt, clL, Bool.and_eq_true] at hc
  obtain ⟨h', e1, e2, e3, p3⟩ := hh _ (List.getElem_mem hlt) (d + under k i) h (by omega) (by omega) h0 h1 (by rw [show d + under k i + L = d + L + under k i by omega]; exact hc.1)
  have h3 := e3 h1
  rw [L_impl_free_impl_maxFree_1_0_eq, decide_eq_true (show (i : Int) < ts.length by omega), cond_true, decide_eq_true (show (0 : Int) ≤ i by omega), cond_true, Int.toNat_natCast, List.getElem?_eq_getElem hlt, f_under (n := n) (by omega), wrap64 (show -9223372036854775808 ≤ (i : Int) + 1 ∧ (i : Int) + 1 ≤ 9223372036854775807 by omega)]
  simp only [evt]
  rw [wrap64 (show -9223372036854775808 ≤ d + under k i ∧ d + under k i ≤ 9223372036854775807 by omega)]
  simp only [tm] at e1
  rw [e1]
  simp only [evt]
  obtain ⟨h2, e4, e5, e6, p6⟩ := free_loop n hn L d k k1 n1 ks0 ts hl hd hh hL g m (i + 1) h' (by omega) (by omega) (by omega) h3 hc.2
  refine ⟨h2, e4, by omega, fun _ => e6 h3, ?_⟩
  show clL (ts.drop i) k i (d + h2) = true
  rw [List.drop_eq_getElem_cons hlt, clL, Bool.and_eq_true]
  exact ⟨clF_mono _ p3 (by omega), p6⟩
theorem f_free (t : T) : ∀ {n : Nat} {L d h : Int}, 3 * t.size + 20 ≤ n → t.size ≤ 100000 → 0 ≤ L ∧ L ≤ 1000000 → 0 ≤ d ∧ d + t.size ≤ 1000000 → 0 ≤ h → h ≤ L → clF t (d + L) = true → FreeTo h L (fun h' => clF t (d + h') = true) (FF n 86 [tm t, nt d, .one (.fn 87 [0])] [.cells [.int .i64 h]]) := by
 induction t using T.ind with | h t ih =>
 intro n L d h hn hz hL hd h0 h1 hc
 have hsz := T.size_eq t
 have hl := T.sizeL_len t.kids
 rw [clF_eq, Bool.and_eq_true] at hc
 obtain ⟨n, rfl⟩ := pos_succ (show 0 < n by omega)
 have lp : ∀ h, 0 ≤ h → h ≤ L → FreeTo h L (fun h' => clL t.kids t.k 0 (d + h') = true) (L_impl_free_impl_maxFree_1_0 n n d t.kids t.kids.length 0 h t.k t.n t.kids) := fun h h0 h1 =>
  free_loop n (by omega) L d t.k t.k t.n t.kids t.kids (by omega) (by omega) (fun u hu d' h' q1 q2 q3 q4 q5 => by
   have := T.sizeL_mem hu
   exact ih u hu (by omega) (by omega) hL (by omega) q3 q4 q5) hL t.kids.length n 0 h (by omega) (by omega) h0 h1 (by simpa using hc.2)
 have fin : ∀ h', (t.k = 1 → t.n < d + h') → clL t.kids t.k 0 (d + h') = true → clF t (d + h') = true := fun h' q p => by
  rw [clF_eq, p, Bool.and_true, Bool.not_eq_true', Bool.and_eq_false_iff, decide_eq_false_iff_not, decide_eq_false_iff_not]
  by_cases hk : t.k = 1
  ·exact .inr (by have := q hk; omega)
  ·exact .inl hk
 rw [E_impl_free_impl_maxFree_1]
 by_cases hk : t.k = 1
 ·rw [decide_eq_true hk, cond_true]
  by_cases hdn : d ≤ t.n
  ·rw [decide_eq_true hdn, cond_true]
   have hb : t.n < d + L := by
    have := hc.1
    rw [hk] at this
    simp only [decide_true, Bool.true_and, Bool.not_eq_true', decide_eq_false_iff_not] at this
    omega
   obtain ⟨n', rfl⟩ := pos_succ (show 0 < n by omega)
   rw [E_impl_maxFree_1, wrap64 (show -9223372036854775808 ≤ t.n - d ∧ t.n - d ≤ 9223372036854775807 by omega), wrap64 (show -9223372036854775808 ≤ t.n - d + 1 ∧ t.n - d + 1 ≤ 9223372036854775807 by omega)]
   simp only [evt]
   obtain ⟨h', e1, e2, e3, e4⟩ := lp (max h (t.n - d + 1)) (by omega) (by omega)
   exact ⟨h', e1, by omega, fun _ => e3 (by omega), fin h' (fun _ => by omega) e4⟩
  ·rw [decide_eq_false hdn, cond_false]
   obtain ⟨h', e1, e2, e3, e4⟩ := lp h h0 h1
   exact ⟨h', e1, e2, e3, fin h' (fun _ => by omega) e4⟩
 ·rw [decide_eq_false hk, cond_false]
  obtain ⟨h', e1, e2, e3, e4⟩ := lp h h0 h1
  exact ⟨h', e1, e2, e3, fin h' (fun q => absurd q hk) e4⟩
theorem f_MaxFree {n : Nat} {t : T} {L : Int} (hn : 5000 ≤ n) (hv : validB t = true) (hL : 0 ≤ L ∧ L ≤ 1000000) (hc : clF t L = true) : ∃ v, FF n 21 [tm t] [] = some ([nt v], []) ∧ 0 ≤ v ∧ v ≤ L ∧ clF t v = true := by
 obtain ⟨n, rfl⟩ := pos_succ (show 0 < n by omega)
 obtain ⟨n, rfl⟩ := pos_succ (show 0 < n by omega)
 have hz := validB_size hv
 rw [E_impl_MaxFree, f_TermValid (by omega), hv]
 simp only [evt]
 rw [E_impl_maxFree]
 obtain ⟨v, e1, e2, e3, e4⟩ := f_free t (n := n) (L := L) (d := 0) (h := 0) (by omega) (by omega) hL (by omega) (by omega) hL.1 (by simpa using hc)
 simp only [tm] at e1
 rw [e1]
 simp only [evt]
 exact ⟨v, rfl, e2, e3 hL.1, by simpa using e4⟩
theorem of_cl : ∀ (t : Tm) (d : Nat), clF (of t) d = true → Tm.cl d t
 | .var n, d, h => by
  simp only [of, clF, clL, Bool.and_true, decide_true, Bool.true_and, Bool.not_eq_true', decide_eq_false_iff_not] at h
  show n < d; omega
 | .sort n, d, h => trivial
 | .nat, d, h => trivial
 | .zero, d, h => trivial
 | .pi a b, d, h => by
  simp only [of, clF, clL, show under 3 0 = 0 from rfl, show under 3 (0 + 1) = 1 from rfl, Int.add_zero, Bool.and_eq_true, Bool.and_true] at h
  exact ⟨of_cl a d h.2.1, of_cl b (d + 1) h.2.2⟩
 | .sig a b, d, h => by
  simp only [of, clF, clL, show under 13 0 = 0 from rfl, show under 13 (0 + 1) = 1 from rfl, Int.add_zero, Bool.and_eq_true, Bool.and_true] at h
  exact ⟨of_cl a d h.2.1, of_cl b (d + 1) h.2.2⟩
 | .lam a b, d, h => by
  simp only [of, clF, clL, show under 4 0 = 0 from rfl, show under 4 (0 + 1) = 1 from rfl, Int.add_zero, Bool.and_eq_true, Bool.and_true] at h
  exact ⟨of_cl a d h.2.1, of_cl b (d + 1) h.2.2⟩
 | .app a b, d, h => by
  simp only [of, clF, clL, show under 5 0 = 0 from rfl, show under 5 (0 + 1) = 0 from rfl, Int.add_zero, Bool.and_eq_true, Bool.and_true] at h
  exact ⟨of_cl a d h.2.1, of_cl b d h.2.2⟩
 | .id a b c, d, h => by
  simp only [of, clF, clL, show under 10 0 = 0 from rfl, show under 10 (0 + 1) = 0 from rfl, show under 10 (0 + 1 + 1) = 0 from rfl, Int.add_zero, Bool.and_eq_true, Bool.and_true] at h
  exact ⟨of_cl a d h.2.1, of_cl b d h.2.2.1, of_cl c d h.2.2.2⟩
 | .move a b c, d, h => by
  simp only [of, clF, clL, show under 12 0 = 0 from rfl, show under 12 (0 + 1) = 0 from rfl, show under 12 (0 + 1 + 1) = 0 from rfl, Int.add_zero, Bool.and_eq_true, Bool.and_true] at h
  exact ⟨of_cl a d h.2.1, of_cl b d h.2.2.1, of_cl c d h.2.2.2⟩
 | .pair a b c, d, h => by
  simp only [of, clF, clL, show under 14 0 = 0 from rfl, show under 14 (0 + 1) = 0 from rfl, show under 14 (0 + 1 + 1) = 0 from rfl, Int.add_zero, Bool.and_eq_true, Bool.and_true] at h
  exact ⟨of_cl a d h.2.1, of_cl b d h.2.2.1, of_cl c d h.2.2.2⟩
 | .elim a b c e, d, h => by
  simp only [of, clF, clL, show under 9 0 = 0 from rfl, show under 9 (0 + 1) = 0 from rfl, show under 9 (0 + 1 + 1) = 0 from rfl, show under 9 (0 + 1 + 1 + 1) = 0 from rfl, Int.add_zero, Bool.and_eq_true, Bool.and_true] at h
  exact ⟨of_cl a d h.2.1, of_cl b d h.2.2.1, of_cl c d h.2.2.2.1, of_cl e d h.2.2.2.2⟩
 | .succ a, d, h => by
  simp only [of, clF, clL, show under 8 0 = 0 from rfl, Int.add_zero, Bool.and_eq_true, Bool.and_true] at h
  exact of_cl a d h.2
 | .refl a, d, h => by
  simp only [of, clF, clL, show under 11 0 = 0 from rfl, Int.add_zero, Bool.and_eq_true, Bool.and_true] at h
  exact of_cl a d h.2
 | .fst a, d, h => by
  simp only [of, clF, clL, show under 15 0 = 0 from rfl, Int.add_zero, Bool.and_eq_true, Bool.and_true] at h
  exact of_cl a d h.2
 | .snd a, d, h => by
  simp only [of, clF, clL, show under 16 0 = 0 from rfl, Int.add_zero, Bool.and_eq_true, Bool.and_true] at h
  exact of_cl a d h.2
namespace Tm
theorem Par.cl {t u : Tm} (h : Par t u) : ∀ {d : Nat}, cl d t → cl d u := by
 induction h with
 | var => exact fun c => c
 | sort => exact fun c => c
 | nat => exact fun c => c
 | zero => exact fun c => c
 | pi h k ih ik => exact fun c => ⟨ih c.1, ik c.2⟩
 | lam h k ih ik => exact fun c => ⟨ih c.1, ik c.2⟩
 | sig h k ih ik => exact fun c => ⟨ih c.1, ik c.2⟩
 | app h k ih ik => exact fun c => ⟨ih c.1, ik c.2⟩
 | succ h ih => exact fun c => ih c
 | refl h ih => exact fun c => ih c
 | fst h ih => exact fun c => ih c
 | snd h ih => exact fun c => ih c
 | elim h k l m ih ik il im => exact fun c => ⟨ih c.1, ik c.2.1, il c.2.2.1, im c.2.2.2⟩
 | id h k l ih ik il => exact fun c => ⟨ih c.1, ik c.2.1, il c.2.2⟩
 | move h k l ih ik il => exact fun c => ⟨ih c.1, ik c.2.1, il c.2.2⟩
 | pair h k l ih ik il => exact fun c => ⟨ih c.1, ik c.2.1, il c.2.2⟩
 | beta h k ih ik => exact fun c => cl_inst (ih c.1.2) (ik c.2)
 | ezero h ih => exact fun c => ih c.2.1
 | esucc h k l m ih ik il im => exact fun c => ⟨⟨il c.2.2.1, im c.2.2.2⟩, ih c.1, ik c.2.1, il c.2.2.1, im c.2.2.2⟩
 | mrefl h ih => exact fun c => ih c.2.2
 | fpair h ih => exact fun c => ih c.2.1
 | spair h ih => exact fun c => ih c.2.2
end Tm
theorem clF_dev {m : Tm} {d : Nat} (h : clF (of m) d = true) : clF (devT (of m)) d = true := by
 obtain ⟨u, e, p⟩ := par_of (par_dev (of m))
 rw [e]
 exact cl_of u d (p.cl (of_cl m d h))
mutual
theorem clF_valid : ∀ (t : T) (g : Nat) {d : Int}, shapeF t g = true → 21 ≤ d → clF t d = true
 | .mk k n ks, g, d, h, hd => by
  simp only [shapeF, Bool.and_eq_true, decide_eq_true_eq] at h
  simp only [clF, Bool.and_eq_true, Bool.not_eq_true', Bool.and_eq_false_iff, decide_eq_false_iff_not]
  refine ⟨?_, clL_valid ks _ h.2.2.2 hd⟩
  by_cases hk : k = 1
  ·subst hk
   right
   have h1 := h.2.2.1.2
   rw [show mostOf 1 = 20 from rfl] at h1
   omega
  ·exact .inl hk
theorem clL_valid : ∀ (ts : List T) (g : Nat) {k : Int} {i : Nat} {d : Int}, shapeL ts g = true → 21 ≤ d → clL ts k i d = true
 | [], _, _, _, _, _, _ => rfl
 | t :: ts, g, k, i, d, h, hd => by
  simp only [shapeL, Bool.and_eq_true] at h
  have hu := und_bd k i
  simp only [clL, Bool.and_eq_true]
  exact ⟨clF_valid t _ h.1 (by omega), clL_valid ts _ h.2 hd⟩
end
theorem f_MaxFreeX {n : Nat} {t : T} (hn : 5000 ≤ n) (hv : validB t = true) : ∃ v : Nat, FF n 21 [tm t] [] = some ([nt (v : Int)], []) ∧ v ≤ 21 ∧ clF t (v : Int) = true := by
 have hs : shapeF t 30 = true := by
  unfold validB at hv
  rw [Bool.and_eq_true] at hv
  exact hv.1
 obtain ⟨v, e1, e2, e3, e4⟩ := f_MaxFree (n := n) (t := t) (L := 21) hn hv (by omega) (clF_valid t 30 hs (by omega))
 obtain ⟨w, rfl⟩ : ∃ w : Nat, v = w := ⟨v.toNat, by omega⟩
 exact ⟨w, e1, by omega, e4⟩
end Go.Proofs.Ytgchmppmecnniaa
end
section
namespace Go.Proofs.Ytgchmppmecnniaa
open Go Go.Ab Go.Dk
end Go.Proofs.Ytgchmppmecnniaa
end
section
namespace Go.Proofs.Ytgchmppmecnniaa
open Go Go.Ab
open Go.Dk (Rd HT Grow T)
abbrev newZ (Z : Go.Dk.Zone) (w : World) : Go.Dk.Zone := fun b => Z b ∨ w.heap.size ≤ b
section
variable {f : FuncId} {fn : Func} {n : Nat} {args : List V1} {vals : List Value} {w : World} {Z : Go.Dk.Zone}
theorem ab_call {outs : List V1} (hfn : Try.prog.funcs[f]? = some fn) (hb : fn.body.isSome = true) (hr : All2 (RV1 [] Z w) args vals) (h : FF n f args [] = some (outs, [])) :
   Calls Try.prog f vals.toArray w fun e w' => ∃ xs : List Value, e = .returned (if h : xs.toArray.size = 1 then xs.toArray[0] else .tuple xs.toArray) ∧ Grow w w' ∧ All2 (RV1 [] (newZ Z w) w') outs xs :=
 abs_call hprim hib hfn hb hr h
theorem ab_bool {b : Bool} (hfn : Try.prog.funcs[f]? = some fn) (hb : fn.body.isSome = true) (hr : All2 (RV1 [] Z w) args vals) (h : FF n f args [] = some ([bl b], [])) :
   Calls Try.prog f vals.toArray w fun e w' => e = .returned (.bool b) ∧ Grow w w' :=
 (ab_call hfn hb hr h).mono fun e w' ⟨xs, he, hg, hx⟩ => by
  obtain ⟨x, xs, rfl, h1, hx⟩ := hx.cons_inv
  obtain rfl := hx.nil_inv
  obtain rfl := bool_res h1
  exact ⟨he, hg⟩
theorem ab_int {b : Int} (hfn : Try.prog.funcs[f]? = some fn) (hb : fn.body.isSome = true) (hr : All2 (RV1 [] Z w) args vals) (h : FF n f args [] = some ([nt b], [])) :
   Calls Try.prog f vals.toArray w fun e w' => e = .returned (.int .i64 b) ∧ Grow w w' :=
 (ab_call hfn hb hr h).mono fun e w' ⟨xs, he, hg, hx⟩ => by
  obtain ⟨x, xs, rfl, h1, hx⟩ := hx.cons_inv
  obtain rfl := hx.nil_inv
  obtain rfl := int_res h1
  exact ⟨he, hg⟩
theorem ab_term {t : T} (hfn : Try.prog.funcs[f]? = some fn) (hb : fn.body.isSome = true) (hr : All2 (RV1 [] Z w) args vals) (h : FF n f args [] = some ([tm t], [])) :
   Calls Try.prog f vals.toArray w fun e w' => ∃ u : HT, e = .returned u.val ∧ Grow w w' ∧ Rd (newZ Z w) w' u ∧ u.er = t :=
 (ab_call hfn hb hr h).mono fun e w' ⟨xs, he, hg, hx⟩ => by
  obtain ⟨x, xs, rfl, h1, hx⟩ := hx.cons_inv
  obtain rfl := hx.nil_inv
  obtain ⟨u, rfl, hu, e1⟩ := term_res h1
  exact ⟨u, he, hg, hu, e1⟩
theorem ab_term_bool {t : T} {b : Bool} (hfn : Try.prog.funcs[f]? = some fn) (hb : fn.body.isSome = true) (hr : All2 (RV1 [] Z w) args vals) (h : FF n f args [] = some ([tm t, bl b], [])) :
   Calls Try.prog f vals.toArray w fun e w' => ∃ u : HT, e = .returned (.tuple #[u.val, .bool b]) ∧ Grow w w' ∧ Rd (newZ Z w) w' u ∧ u.er = t :=
 (ab_call hfn hb hr h).mono fun e w' ⟨xs, he, hg, hx⟩ => by
  obtain ⟨x, xs, rfl, h1, hx⟩ := hx.cons_inv
  obtain ⟨y, xs, rfl, h2, hx⟩ := hx.cons_inv
  obtain rfl := hx.nil_inv
  obtain ⟨u, rfl, hu, e1⟩ := term_res h1
  obtain rfl := bool_res h2
  exact ⟨u, he, hg, hu, e1⟩
end
end Go.Proofs.Ytgchmppmecnniaa
end
section
namespace Go.Proofs.Ytgchmppmecnniaa
open Go.ChangeShapes Go.WideShapes Go.ChangeAt Go.RowKit
open Go.ChangeMaps (open_string shut_string)
open Go.Dk
theorem own : ownKnob Try.prog.godebug = none := by kernel_rfl
theorem laidOut : laidOutB Try.prog = true := by kernel_rfl
section
variable {H : Type} {enc : TypeId × Value → H} {P : Program} {W : World} {sp : Nat → Bool} {hd : Bool}
end
end Go.Proofs.Ytgchmppmecnniaa
end
