/- Part 7 of the proof. -/
import Derived.Test.YtgchmppmecnniaaK01
import Derived.Test.YtgchmppmecnniaaK02
import Derived.Test.YtgchmppmecnniaaK03
import Derived.Test.YtgchmppmecnniaaK04
import Derived.Test.YtgchmppmecnniaaK05
import Derived.Test.YtgchmppmecnniaaK06
set_option linter.unusedVariables false
set_option linter.unusedSimpArgs false
section
namespace Go.Proofs.Ytgchmppmecnniaa
open Go Go.Ab Go.Dk
def LwT (k : Nat) (t : T) : Prop := ∃ m : Tm, t = of m ∧ Tm.ht m ≤ k ∧ Tm.lw m
theorem LwT.size {t : T} (h : LwT 4 t) : t.size ≤ 85 := by obtain ⟨m, rfl, h, _⟩ := h; exact Tm.sz4 h
theorem LwT.mono {k j : Nat} {t : T} (h : LwT k t) (hk : k ≤ j) : LwT j t := by obtain ⟨m, e, h, l⟩ := h; exact ⟨m, e, by omega, l⟩
theorem LwT.zero {k : Nat} (hk : 1 ≤ k) : LwT k (.mk 7 0 []) := ⟨.zero, rfl, hk, trivial⟩
theorem lw_mk {k : Nat} {kind n1 : Int} {acc : List T} (hr : 1 ≤ kind ∧ kind ≤ 16) (hk : opsOf kind = acc.length) (hn : 0 ≤ n1 ∧ n1 ≤ 3) (h0 : mostOf kind ≤ 0 → n1 = 0) (ha : ∀ t ∈ acc, LwT k t) : LwT (k + 1) (.mk kind n1 acc) := by
 have l0 : acc.length = 0 → acc = [] := List.length_eq_zero_iff.1
 have l1 : acc.length = 1 → ∃ a, acc = [of a] ∧ Tm.ht a ≤ k ∧ Tm.lw a := fun h => by
  match acc, h with
  | [a], _ => obtain ⟨m, rfl, h1, h2⟩ := ha a (by simp); exact ⟨m, rfl, h1, h2⟩
 have l2 : acc.length = 2 → ∃ a b, acc = [of a, of b] ∧ (Tm.ht a ≤ k ∧ Tm.ht b ≤ k) ∧ Tm.lw a ∧ Tm.lw b := fun h => by
  match acc, h with
  | [a, b], _ => obtain ⟨m, rfl, h1, h2⟩ := ha a (by simp); obtain ⟨m', rfl, h1', h2'⟩ := ha b (by simp); exact ⟨m, m', rfl, ⟨h1, h1'⟩, h2, h2'⟩
 have l3 : acc.length = 3 → ∃ a b c, acc = [of a, of b, of c] ∧ (Tm.ht a ≤ k ∧ Tm.ht b ≤ k ∧ Tm.ht c ≤ k) ∧ Tm.lw a ∧ Tm.lw b ∧ Tm.lw c := fun h => by
  match acc, h with
  | [a, b, c], _ => obtain ⟨m, rfl, h1, h2⟩ := ha a (by simp); obtain ⟨m', rfl, h1', h2'⟩ := ha b (by simp); obtain ⟨m'', rfl, h1'', h2''⟩ := ha c (by simp); exact ⟨m, m', m'', rfl, ⟨h1, h1', h1''⟩, h2, h2', h2''⟩
 have l4 : acc.length = 4 → ∃ a b c d, acc = [of a, of b, of c, of d] ∧ (Tm.ht a ≤ k ∧ Tm.ht b ≤ k ∧ Tm.ht c ≤ k ∧ Tm.ht d ≤ k) ∧ Tm.lw a ∧ Tm.lw b ∧ Tm.lw c ∧ Tm.lw d := fun h => by
  match acc, h with
  | [a, b, c, d], _ => obtain ⟨m, rfl, h1, h2⟩ := ha a (by simp); obtain ⟨m', rfl, h1', h2'⟩ := ha b (by simp); obtain ⟨m'', rfl, h1'', h2''⟩ := ha c (by simp); obtain ⟨m3, rfl, h3, h4⟩ := ha d (by simp); exact ⟨m, m', m'', m3, rfl, ⟨h1, h1', h1'', h3⟩, h2, h2', h2'', h4⟩
 have o0 : ∀ {x : Int}, opsOf x = acc.length → opsOf x = 0 → acc.length = 0 := fun h h' => by omega
 have o1 : ∀ {x : Int}, opsOf x = acc.length → opsOf x = 1 → acc.length = 1 := fun h h' => by omega
 have o2 : ∀ {x : Int}, opsOf x = acc.length → opsOf x = 2 → acc.length = 2 := fun h h' => by omega
 have o3 : ∀ {x : Int}, opsOf x = acc.length → opsOf x = 3 → acc.length = 3 := fun h h' => by omega
 have o4 : ∀ {x : Int}, opsOf x = acc.length → opsOf x = 4 → acc.length = 4 := fun h h' => by omega
 have en : ((n1.toNat : Nat) : Int) = n1 := by omega
 have hc : kind = 1 ∨ kind = 2 ∨ kind = 3 ∨ kind = 4 ∨ kind = 5 ∨ kind = 6 ∨ kind = 7 ∨ kind = 8 ∨ kind = 9 ∨ kind = 10 ∨ kind = 11 ∨ kind = 12 ∨ kind = 13 ∨ kind = 14 ∨ kind = 15 ∨ kind = 16 := by omega
 rcases hc with rfl | rfl | rfl | rfl | rfl | rfl | rfl | rfl | rfl | rfl | rfl | rfl | rfl | rfl | rfl | rfl
 ·rw [l0 (o0 hk rfl), ← en]; exact ⟨.var n1.toNat, rfl, by simp [Tm.ht], show n1.toNat ≤ 3 by omega⟩
 ·rw [l0 (o0 hk rfl), ← en]; exact ⟨.sort n1.toNat, rfl, by simp [Tm.ht], show n1.toNat ≤ 3 by omega⟩
 ·obtain ⟨a, b, rfl, h, l⟩ := l2 (o2 hk rfl); rw [h0 (by decide)]; exact ⟨.pi a b, rfl, by simp only [Tm.ht]; omega, l⟩
 ·obtain ⟨a, b, rfl, h, l⟩ := l2 (o2 hk rfl); rw [h0 (by decide)]; exact ⟨.lam a b, rfl, by simp only [Tm.ht]; omega, l⟩
 ·obtain ⟨a, b, rfl, h, l⟩ := l2 (o2 hk rfl); rw [h0 (by decide)]; exact ⟨.app a b, rfl, by simp only [Tm.ht]; omega, l⟩
 ·rw [l0 (o0 hk rfl), h0 (by decide)]; exact ⟨.nat, rfl, by simp [Tm.ht], trivial⟩
 ·rw [l0 (o0 hk rfl), h0 (by decide)]; exact ⟨.zero, rfl, by simp [Tm.ht], trivial⟩
 ·obtain ⟨a, rfl, h, l⟩ := l1 (o1 hk rfl); rw [h0 (by decide)]; exact ⟨.succ a, rfl, by simp only [Tm.ht]; omega, l⟩
 ·obtain ⟨a, b, c, d, rfl, h, l⟩ := l4 (o4 hk rfl); rw [h0 (by decide)]; exact ⟨.elim a b c d, rfl, by simp only [Tm.ht]; omega, l⟩
 ·obtain ⟨a, b, c, rfl, h, l⟩ := l3 (o3 hk rfl); rw [h0 (by decide)]; exact ⟨.id a b c, rfl, by simp only [Tm.ht]; omega, l⟩
 ·obtain ⟨a, rfl, h, l⟩ := l1 (o1 hk rfl); rw [h0 (by decide)]; exact ⟨.refl a, rfl, by simp only [Tm.ht]; omega, l⟩
 ·obtain ⟨a, b, c, rfl, h, l⟩ := l3 (o3 hk rfl); rw [h0 (by decide)]; exact ⟨.move a b c, rfl, by simp only [Tm.ht]; omega, l⟩
 ·obtain ⟨a, b, rfl, h, l⟩ := l2 (o2 hk rfl); rw [h0 (by decide)]; exact ⟨.sig a b, rfl, by simp only [Tm.ht]; omega, l⟩
 ·obtain ⟨a, b, c, rfl, h, l⟩ := l3 (o3 hk rfl); rw [h0 (by decide)]; exact ⟨.pair a b c, rfl, by simp only [Tm.ht]; omega, l⟩
 ·obtain ⟨a, rfl, h, l⟩ := l1 (o1 hk rfl); rw [h0 (by decide)]; exact ⟨.fst a, rfl, by simp only [Tm.ht]; omega, l⟩
 ·obtain ⟨a, rfl, h, l⟩ := l1 (o1 hk rfl); rw [h0 (by decide)]; exact ⟨.snd a, rfl, by simp only [Tm.ht]; omega, l⟩
abbrev IsLw (k : Nat) (l : List UInt8) (m : Int) (r : List V1 × List AObj) : Prop := ∃ (t : T) (p : Int), r = ([tm t], [rdr l p]) ∧ LwT k t ∧ RdOk l p m
theorem lw_loop (Q : Int) (hQ : Q ≤ 900000000000) (n : Nat) (hn : 1 ≤ n) (l : List UInt8) (d kind : Int) (k : Nat) (M : Int)
   (ih : ∀ p m, RdOk l p m → m ≤ Q → Tot (FF n 37 [.one (.ptr 0 0), nt (d - 1)] [rdr l p]) (IsLw k l (m + M))) (hM : 0 ≤ M ∧ M ≤ 1000000000) (hd : -100 ≤ d ∧ d ≤ 100) (z1 z2 : Int) (l0 : List T) (n1 : Int)
   (hr : 1 ≤ kind ∧ kind ≤ 16) (hn1 : 0 ≤ n1 ∧ n1 ≤ 3) (h0 : mostOf kind ≤ 0 → n1 = 0) :
   ∀ (g c i : Nat) (p m : Int) (acc : List T), g < c → opsOf kind = i + g → i ≤ 4 → g ≤ 4 → RdOk l p m → m + g * M ≤ Q → acc.length = i → (∀ t ∈ acc, LwT k t) →
    Tot (L_spec_l1Draw_0_foo n c d kind i l p z1 z2 l0 kind n1 acc) (IsLw (k + 1) l (m + g * M))
 | g, 0, i, p, m, acc, hg, _, _, _, _, _, _, _ => by omega
 | 0, c + 1, i, p, m, acc, _, hi, _, _, hr', _, hl, ha => by
  rw [L_spec_l1Draw_0_foo_eq, f_l1Kids hn]
  simp only [evt]
  rw [decide_eq_false (show ¬ (i : Int) < opsOf kind by omega)]
  refine tot_some ?_
  exact ⟨.mk kind n1 acc, p, rfl, lw_mk hr (by omega) hn1 h0 ha, by simpa using hr'⟩
 | g + 1, c + 1, i, p, m, acc, hg, hi, hi4, hg4, hr', hm, hl, ha => by
  rw [L_spec_l1Draw_0_foo_eq, f_l1Kids hn]
  simp only [evt]
  have hgM : (((g + 1 : Nat)) : Int) * M = g * M + M := by rw [Int.natCast_add, Int.add_mul]; simp
  have ho := ops_le kind
  have hg0 : 0 ≤ (g : Int) * M := Int.mul_nonneg (by omega) hM.1
  rw [decide_eq_true (show (i : Int) < opsOf kind by omega), cond_true, wrap64 (show -9223372036854775808 ≤ d - 1 ∧ d - 1 ≤ 9223372036854775807 by omega)]
  refine tot_call (ih p m hr' (by rw [hgM] at hm; omega)) ?_
  rintro _ ⟨t, p', rfl, ht, hr2⟩
  have w : IntKind.i64.wrap ((i : Int) + 1) = ((i + 1 : Nat) : Int) := wrap64 (by omega)
  simp only [evt, w, List.length_append, List.length_cons, List.length_nil, hl]
  rw [roomB_ok (by omega), cond_true]
  have := lw_loop Q hQ n hn l d kind k M ih hM hd z1 z2 l0 n1 hr hn1 h0 g c (i + 1) p' (m + M) (acc ++ [t]) (by omega) (by omega) (by omega) (by omega) hr2 (by rw [hgM] at hm; omega) (by simp [hl]) (fun u hu => by
   rcases List.mem_append.1 hu with h | h
   ·exact ha u h
   ·rw [List.mem_singleton.1 h]; exact ht)
  refine tot_mono this ?_
  rintro _ ⟨u, q, rfl, hu, hq⟩
  exact ⟨u, q, rfl, hu, hq.mono (by rw [hgM]; omega)⟩
theorem x_l1Draw_step (Q : Int) (hQ : Q ≤ 900000000000) {n : Nat} (hn : 10 ≤ n) (l : List UInt8) (d : Int) (k : Nat) (M : Int) (hM : 0 ≤ M ∧ M ≤ 1000000000) (hd : -100 ≤ d ∧ d ≤ 100) (leaf : d < 2 → ∀ kind : Int, opsOf kind = 0 → True)
   (ih : 2 ≤ d → ∀ m, n ≤ m + 1 → ∀ p q, RdOk l p q → q ≤ Q → Tot (FF m 37 [.one (.ptr 0 0), nt (d - 1)] [rdr l p]) (IsLw k l (q + M))) {p m : Int} (hr : RdOk l p m) (hm : m + 3 + 4 * M ≤ Q) :
   Tot (FF n 37 [.one (.ptr 0 0), nt d] [rdr l p]) (IsLw (k + 1) l (m + 3 + 4 * M)) := by
 refine tot_step (C := 9) (by omega) fun n hn e => ?_
 have fin : ∀ (kind n1 q m' : Int), (2 ≤ d ∨ opsOf kind = 0) → (1 ≤ kind ∧ kind ≤ 16) → (0 ≤ n1 ∧ n1 ≤ 3) → (mostOf kind ≤ 0 → n1 = 0) → RdOk l q m' → m' ≤ m + 3 → Tot (L_spec_l1Draw_0_foo n n d kind 0 l q 0 0 [] kind n1 []) (IsLw (k + 1) l (m + 3 + 4 * M)) := by
  intro kind n1 q m' hk h16 hn1 h0 hq hm'
  have h4 := ops_le kind
  have hp : 0 ≤ opsOf kind := by
   have hk1 : ∀ v : Int, v ∈ ([1, 2, 3, 4, 5, 6, 7, 8, 9, 10, 11, 12, 13, 14, 15, 16] : List Int) → 0 ≤ opsOf v := fun v hv => by simpa using List.all_eq_true.1 (show (([1, 2, 3, 4, 5, 6, 7, 8, 9, 10, 11, 12, 13, 14, 15, 16] : List Int).all fun v => decide (0 ≤ opsOf v)) = true by decide +kernel) v hv
   exact hk1 kind (by simp only [List.mem_cons, List.not_mem_nil, or_false]; omega)
  obtain ⟨g, hg⟩ : ∃ g : Nat, opsOf kind = g := ⟨(opsOf kind).toNat, by omega⟩
  rcases hk with hd2 | hk
  ·have hgM : (g : Int) * M ≤ 4 * M := Int.mul_le_mul_of_nonneg_right (by omega) hM.1
   have := lw_loop Q hQ n (by omega) l d kind k M (fun p q => ih hd2 n (by omega) p q) hM hd 0 0 [] n1 h16 hn1 h0 g n 0 q m' [] (by omega) (by omega) (by omega) (by omega) hq (by omega) rfl (by simp)
   refine tot_mono this ?_
   rintro _ ⟨u, q, rfl, hu, hq⟩
   exact ⟨u, q, rfl, hu, hq.mono (by omega)⟩
  ·obtain ⟨c, rfl⟩ : ∃ c, n = c + 1 := ⟨n - 1, by omega⟩
   rw [L_spec_l1Draw_0_foo_eq, f_l1Kids (by omega), hk]
   simp only [evt]
   refine tot_cond (fun h => by simp at h) (fun _ => tot_some ?_)
   exact ⟨.mk kind n1 [], q, rfl, lw_mk h16 (by rw [hk]; rfl) hn1 h0 (by simp), hq.mono (by omega)⟩
 have hk1 : ∀ v : Int, v ∈ ([1, 5, 4, 8, 9, 3, 6, 7, 11, 15, 14, 10, 12, 13, 16, 2] : List Int) → 1 ≤ v ∧ v ≤ 16 := fun v hv => by simp only [List.mem_cons, List.not_mem_nil, or_false] at hv; omega
 have hk2 : ∀ v : Int, v ∈ ([1, 7, 6, 2, 1] : List Int) → 1 ≤ v ∧ v ≤ 16 := fun v hv => by simp only [List.mem_cons, List.not_mem_nil, or_false] at hv; omega
 have hk3 : ∀ v : Int, v ∈ ([1, 7, 6, 2, 1] : List Int) → opsOf v = 0 := fun v hv => by simpa using List.all_eq_true.1 (show (([1, 7, 6, 2, 1] : List Int).all fun v => decide (opsOf v = 0)) = true by decide +kernel) v hv
 have hv3 : ∀ v : Int, v ∈ ([0, 1, 0, 2, 1, 3] : List Int) → 0 ≤ v ∧ v ≤ 3 := fun v hv => by simp only [List.mem_cons, List.not_mem_nil, or_false] at hv; omega
 rw [E_spec_l1Draw]
 refine tot_call (t_num (by omega) hr (by omega) (by simp) (by simp)) ?_
 rintro _ ⟨v, p1, rfl, hv, hr1⟩
 simp only [evt]
 refine tot_cond (fun _ => ?_) (fun hd2 => ?_)
 ·refine tot_call (t_num (by omega) hr1 (by omega) (by simp) (by simp)) ?_
  rintro _ ⟨v2, p2, rfl, hv2, hr2⟩
  simp only [evt, f_l1Most (show 1 ≤ n by omega)]
  refine tot_cond (fun hq => ?_) (fun hq => ?_)
  ·refine tot_call (t_num (by omega) hr2 (by omega) (by simp) (by simp)) ?_
   rintro _ ⟨v3, p3, rfl, hv3', hr3⟩
   simp only [evt]
   exact fin _ _ _ _ (.inr (hk3 _ hv2)) (hk2 _ hv2) (hv3 _ hv3') (fun h => by have := of_decide_eq_true hq; omega) hr3 (by omega)
  ·exact fin _ _ _ _ (.inr (hk3 _ hv2)) (hk2 _ hv2) (by omega) (fun _ => rfl) hr2 (by omega)
 ·have hd2 : 2 ≤ d := by have := of_decide_eq_false hd2; omega
  simp only [f_l1Most (show 1 ≤ n by omega), evt]
  refine tot_cond (fun hq => ?_) (fun hq => ?_)
  ·refine tot_call (t_num (by omega) hr1 (by omega) (by simp) (by simp)) ?_
   rintro _ ⟨v3, p3, rfl, hv3', hr3⟩
   simp only [evt]
   exact fin _ _ _ _ (.inl hd2) (hk1 _ hv) (hv3 _ hv3') (fun h => by have := of_decide_eq_true hq; omega) hr3 (by omega)
  ·exact fin _ _ _ _ (.inl hd2) (hk1 _ hv) (by omega) (fun _ => rfl) hr1 (by omega)
theorem lw_weaken {o : OR} {k j : Nat} {l : List UInt8} {m m' : Int} (h : Tot o (IsLw k l m)) (hk : k ≤ j) (hm : m ≤ m') : Tot o (IsLw j l m') :=
 tot_mono h fun r ⟨t, p, e, h1, h2⟩ => ⟨t, p, e, h1.mono hk, h2.mono hm⟩
theorem x_l1Draw1 {n : Nat} (hn : 20 ≤ n) {l : List UInt8} {p m : Int} (hr : RdOk l p m) (hm : m ≤ 800000000000) : Tot (FF n 37 [.one (.ptr 0 0), nt 1] [rdr l p]) (IsLw 1 l (m + 3)) :=
 lw_weaken (x_l1Draw_step 900000000000 (by omega) (by omega) l 1 0 0 (by omega) (by omega) (fun _ _ _ => trivial) (fun h => absurd h (by omega)) hr (by omega)) (by omega) (by omega)
theorem x_l1Draw2 {n : Nat} (hn : 40 ≤ n) {l : List UInt8} {p m : Int} (hr : RdOk l p m) (hm : m ≤ 700000000000) : Tot (FF n 37 [.one (.ptr 0 0), nt 2] [rdr l p]) (IsLw 2 l (m + 15)) :=
 lw_weaken (x_l1Draw_step 800000000000 (by omega) (by omega) l 2 1 3 (by omega) (by omega) (fun _ _ _ => trivial) (fun _ k hk p q hr hq => x_l1Draw1 (by omega) hr hq) hr (by omega)) (by omega) (by omega)
theorem x_l1Draw3 {n : Nat} (hn : 60 ≤ n) {l : List UInt8} {p m : Int} (hr : RdOk l p m) (hm : m ≤ 600000000000) : Tot (FF n 37 [.one (.ptr 0 0), nt 3] [rdr l p]) (IsLw 3 l (m + 63)) :=
 lw_weaken (x_l1Draw_step 700000000000 (by omega) (by omega) l 3 2 15 (by omega) (by omega) (fun _ _ _ => trivial) (fun _ k hk p q hr hq => x_l1Draw2 (by omega) hr hq) hr (by omega)) (by omega) (by omega)
theorem x_l1Draw4 {n : Nat} (hn : 80 ≤ n) {l : List UInt8} {p m : Int} (hr : RdOk l p m) (hm : m ≤ 500000000000) : Tot (FF n 37 [.one (.ptr 0 0), nt 4] [rdr l p]) (IsLw 4 l (m + 255)) :=
 lw_weaken (x_l1Draw_step 600000000000 (by omega) (by omega) l 4 3 63 (by omega) (by omega) (fun _ _ _ => trivial) (fun _ k hk p q hr hq => x_l1Draw3 (by omega) hr hq) hr (by omega)) (by omega) (by omega)
theorem x_l1Any {n : Nat} (hn : 500 ≤ n) {l : List UInt8} {p m : Int} (hr : RdOk l p m) (hm : m ≤ 400000000000) : Tot (FF n 72 [.one (.ptr 0 0)] [rdr l p]) (fun r => ∃ (t : T) (p : Int), r = ([tm t], [rdr l p]) ∧ validB t = true ∧ LwT 4 t ∧ RdOk l p (m + 256)) := by
 refine tot_step (C := 499) (by omega) fun n hn e => ?_
 rw [E_spec_l1Any]
 refine tot_call (t_num (by omega) hr (by omega) (by simp) (by simp)) ?_
 rintro _ ⟨v, p1, rfl, hv, hr1⟩
 simp only [evt]
 have hd : Tot (FF n 37 [.one (.ptr 0 0), nt v] [rdr l p1]) (IsLw 4 l (m + 256)) := by
  simp only [List.mem_cons, List.not_mem_nil, or_false] at hv
  rcases hv with rfl | rfl | rfl | rfl | rfl
  ·exact lw_weaken (x_l1Draw3 (by omega) hr1 (by omega)) (by omega) (by omega)
  ·exact lw_weaken (x_l1Draw4 (by omega) hr1 (by omega)) (by omega) (by omega)
  ·exact lw_weaken (x_l1Draw2 (by omega) hr1 (by omega)) (by omega) (by omega)
  ·exact lw_weaken (x_l1Draw3 (by omega) hr1 (by omega)) (by omega) (by omega)
  ·exact lw_weaken (x_l1Draw1 (by omega) hr1 (by omega)) (by omega) (by omega)
 refine tot_call hd ?_
 rintro _ ⟨t, p2, rfl, hz, hr2⟩
 have hz' := hz.size
 simp only [evt, f_TermValidS (show t.size + 6 ≤ n by omega) (show t.size ≤ 4000000 by omega)]
 refine tot_cond (fun h => tot_some ?_) (fun _ => ?_)
 ·exact ⟨t, p2, rfl, h, hz, hr2⟩
 ·simp only [f_l1Leaf (show 1 ≤ n by omega), evt]
  refine tot_some ?_
  exact ⟨.mk 7 0 [], p2, rfl, zero_valid, .zero (by omega), hr2⟩
def MutT (t y : T) : Prop := y = t ∨ y = .mk 8 0 [t] ∨ (∃ w, w ∈ ([0, 17, 1, 5, 6] : List Int) ∧ y = .mk w t.n t.kids) ∨ (∃ w, w ∈ ([21, -1, 1, 9223372036854775807] : List Int) ∧ y = .mk t.k w t.kids) ∨ y = .mk t.k t.n (t.kids ++ [.mk 7 0 []]) ∨ (0 < t.kids.length ∧ y = .mk t.k t.n (t.kids.set 0 (.mk 1 25 [])))
theorem MutT.size {t y : T} (h : MutT t y) : y.size ≤ t.size + 2 := by
 have e := T.size_eq t
 rcases h with rfl | rfl | ⟨w, _, rfl⟩ | ⟨w, _, rfl⟩ | rfl | ⟨h, rfl⟩
 ·omega
 ·simp only [T.size, T.sizeL]; omega
 ·simp only [T.size]; omega
 ·simp only [T.size]; omega
 ·have := snoc_size t.kids (.mk 7 0 []); have h7 : (T.mk 7 0 []).size = 1 := rfl; simp only [T.size] at this ⊢; simp only [T.sizeL] at this; omega
 ·have := set_size t.kids (.mk 1 25 []) h; have h7 : (T.mk 1 25 []).size = 1 := rfl; simp only [T.size] at this ⊢; simp only [T.sizeL] at this; omega
theorem of_ops (m : Tm) : opsOf (of m).k = ((of m).kids.length : Int) := by cases m <;> rfl
theorem of_n0 {m : Tm} (h : (of m).n ≠ 0) : Tm.ht m ≤ 1 := by cases m <;> first | exact Nat.le_refl 1 | exact absurd rfl h
theorem mut_of {m : Tm} {y : T} (h : MutT (of m) y) (hv : validB y = true) : ∃ m', y = of m' ∧ Tm.Mt m m' := by
 obtain ⟨m', rfl⟩ := of_valid hv
 rcases h with h | h | ⟨w, hw, h⟩ | ⟨w, hw, h⟩ | h | ⟨h0, h⟩
 ·exact ⟨m', rfl, .inl (of_inj h)⟩
 ·exact ⟨m', rfl, .inr (.inl (of_inj (a := m') (b := .succ m) h))⟩
 ·refine ⟨m', rfl, ?_⟩
  have hk : (of m').k = w := by rw [h]; rfl
  have hkk : (of m').kids = (of m).kids := by rw [h]; rfl
  simp only [List.mem_cons, List.not_mem_nil, or_false] at hw
  rw [of_k] at hk
  cases m' <;> simp only at hk <;> first
   | (exfalso; omega)
   | exact .inr (.inr (.inl (Nat.le_refl 1)))
   | (rename_i a b
      cases m <;> simp only [of, T.kids, List.cons.injEq, reduceCtorEq, and_true, and_false, false_and] at hkk <;>
       (obtain ⟨e1, e2⟩ := hkk; have e1 := of_inj e1; have e2 := of_inj e2; subst e1; subst e2)
      ·exact .inr (.inr (.inr ⟨_, _, .inl rfl, rfl⟩))
      ·exact .inr (.inr (.inr ⟨_, _, .inr (.inr rfl), rfl⟩))
      ·exact .inl rfl
      ·exact .inr (.inr (.inr ⟨_, _, .inr (.inl rfl), rfl⟩)))
 ·refine ⟨m', rfl, .inr (.inr (.inl (of_n0 ?_)))⟩
  have hk : (of m').n = w := by rw [h]; rfl
  simp only [List.mem_cons, List.not_mem_nil, or_false] at hw
  omega
 ·exfalso
  have hk : (of m').k = (of m).k := by rw [h]; rfl
  have hkk : (of m').kids = (of m).kids ++ [.mk 7 0 []] := by rw [h]; rfl
  have h1 := of_ops m'
  rw [hk, of_ops m, hkk, List.length_append] at h1
  simp at h1; omega
 ·exfalso
  have hkk : (of m').kids = (of m).kids.set 0 (.mk 1 25 []) := by rw [h]; rfl
  have : validB (.mk 1 25 []) = true := validB_kid hv (by rw [hkk]; exact List.mem_iff_getElem.2 ⟨0, by simpa using h0, by simp⟩)
  revert this; decide +kernel
theorem x_l1Mutate {n : Nat} {t : T} (hz : t.size ≤ 500000) (hn : t.size + 500 ≤ n) {l : List UInt8} {p m : Int} (hr : RdOk l p m) (hm : m ≤ 500000000000) : Tot (FF n 34 [.one (.ptr 0 0), tm t] [rdr l p]) (fun r => ∃ (y : T) (p : Int), r = ([tm y], [rdr l p]) ∧ MutT t y ∧ RdOk l p (m + 2)) := by
 refine tot_step (C := t.size + 499) (by omega) fun n hn e => ?_
 have hsz := T.size_eq t
 have hl := T.sizeL_len t.kids
 rw [E_spec_l1Mutate, f_l1Copy t (by omega) (by omega)]
 simp only [evt]
 refine tot_call (t_pick (by omega) hr (by omega) (by omega)) ?_
 rintro _ ⟨v, p1, rfl, hv0, hv1, hr1⟩
 have hap : roomB (t.kids ++ [T.mk 7 0 []]).length = true := roomB_ok (by simp; omega)
 simp (disch := simp) only [evt, f_l1Leaf (show 1 ≤ n by omega), f_l1Node (show 1 ≤ n by omega), hap]
 repeat' (first | (simp (disch := omega) only [wrap64]; done) | (simp (disch := omega) only [wrap64]) | (with_reducible refine tot_cond (fun hq => ?_) (fun hq => ?_) <;> (try simp (disch := omega) only [wrap64] at hq) <;> (try simp only [decide_eq_true_eq, decide_eq_false_iff_not, Bool.not_eq_true', Bool.not_eq_false', Bool.and_eq_true, Bool.and_eq_false_iff, inB, Bool.not_true, Bool.not_false] at hq) <;> try (exfalso; omega; done)) | (with_reducible refine tot_call (t_num (by omega) hr1 (by omega) (by simp) (by simp)) ?_; rintro _ ⟨w, p2, rfl, hw, hr2⟩; simp only [evt]) | ((with_reducible refine tot_some ?_); (exact ⟨.mk w t.n t.kids, _, rfl, .inr (.inr (.inl ⟨w, hw, rfl⟩)), hr2.mono (by omega)⟩)) | ((with_reducible refine tot_some ?_); (exact ⟨.mk t.k w t.kids, _, rfl, .inr (.inr (.inr (.inl ⟨w, hw, rfl⟩))), hr2.mono (by omega)⟩)) | ((with_reducible refine tot_some ?_); (exact ⟨t, _, rfl, .inl rfl, hr1.mono (by omega)⟩)) | ((with_reducible refine tot_some ?_); (exact ⟨.mk t.k t.n (t.kids ++ [.mk 7 0 []]), _, rfl, .inr (.inr (.inr (.inr (.inl rfl)))), hr1.mono (by omega)⟩)) | ((with_reducible refine tot_some ?_); (exact ⟨.mk 8 0 [t], _, rfl, .inr (.inl rfl), hr1.mono (by omega)⟩)) | ((with_reducible refine tot_some ?_); (exact ⟨.mk t.k t.n (t.kids.set 0 (.mk 1 25 [])), _, rfl, .inr (.inr (.inr (.inr (.inr ⟨by omega, rfl⟩)))), hr1.mono (by omega)⟩)))
end Go.Proofs.Ytgchmppmecnniaa
end
section
namespace Go.Proofs.Ytgchmppmecnniaa
open Go Go.Dk
mutual
def okD : T → Bool
 | .mk k n ts => okDL ts && (validB (.mk k n (devL ts)) && validB (devT (.mk k n ts)))
def okDL : List T → Bool
 | [] => true
 | t :: ts => okD t && okDL ts
end
theorem dev_node {k n : Int} {ts : List T} (h : ¬ Rx (.mk k n ts)) : devT (.mk k n ts) = .mk k n (devL ts) := by rw [devT, if_neg h]
theorem dev_red {k n : Int} {ts : List T} (h : Rx (.mk k n ts)) : devT (.mk k n ts) = contractT (.mk k n (devL ts)) := by rw [devT, if_pos h]
theorem not_rx {k n : Int} {ts : List T} (h : k ≠ 5 ∧ k ≠ 9 ∧ k ≠ 12 ∧ k ≠ 15 ∧ k ≠ 16) : ¬ Rx (.mk k n ts) := fun hr => by
 have : k = 5 ∨ k = 9 ∨ k = 12 ∨ k = 15 ∨ k = 16 := hr.k
 omega
theorem okD_node {t : T} {k n : Int} {ts : List T} (e : t = .mk k n ts) (h1 : okDL ts = true) (h2 : validB (.mk k n (devL ts)) = true) (h3 : validB (devT t) = true) : okD t = true := by
 subst e
 rw [okD, h1, h2, h3]; rfl
namespace Tm
theorem rx_app {f u : Tm} (h : Rx (.mk 5 0 [of f, of u])) : ∃ a b, f = lam a b := by
 cases h with
 | app h h' =>
  have h' : (of f).k = 4 := h'
  cases f <;> first | exact ⟨_, _, rfl⟩ | (simp only [of, T.k] at h'; omega)
 | zero h h' => exact absurd (show (5 : Int) = 9 from h) (by omega)
 | succ h h' => exact absurd (show (5 : Int) = 9 from h) (by omega)
 | move h h' => exact absurd (show (5 : Int) = 12 from h) (by omega)
 | fst h h' => exact absurd (show (5 : Int) = 15 from h) (by omega)
 | snd h h' => exact absurd (show (5 : Int) = 16 from h) (by omega)
theorem rx_elim {p z s n : Tm} (h : Rx (.mk 9 0 [of p, of z, of s, of n])) : n = zero ∨ ∃ m, n = succ m := by
 cases h with
 | app h h' => exact absurd (show (9 : Int) = 5 from h) (by omega)
 | zero h h' =>
  have h' : (of n).k = 7 := h'
  cases n <;> first | exact .inl rfl | (simp only [of, T.k] at h'; omega)
 | succ h h' =>
  have h' : (of n).k = 8 := h'
  cases n <;> first | exact .inr ⟨_, rfl⟩ | (simp only [of, T.k] at h'; omega)
 | move h h' => exact absurd (show (9 : Int) = 12 from h) (by omega)
 | fst h h' => exact absurd (show (9 : Int) = 15 from h) (by omega)
 | snd h h' => exact absurd (show (9 : Int) = 16 from h) (by omega)
theorem rx_move {p e x : Tm} (h : Rx (.mk 12 0 [of p, of e, of x])) : ∃ a, e = refl a := by
 cases h with
 | app h h' => exact absurd (show (12 : Int) = 5 from h) (by omega)
 | zero h h' => exact absurd (show (12 : Int) = 9 from h) (by omega)
 | succ h h' => exact absurd (show (12 : Int) = 9 from h) (by omega)
 | move h h' =>
  have h' : (of e).k = 11 := h'
  cases e <;> first | exact ⟨_, rfl⟩ | (simp only [of, T.k] at h'; omega)
 | fst h h' => exact absurd (show (12 : Int) = 15 from h) (by omega)
 | snd h h' => exact absurd (show (12 : Int) = 16 from h) (by omega)
theorem rx_fst {q : Tm} (h : Rx (.mk 15 0 [of q])) : ∃ s a b, q = pair s a b := by
 have h' : (of q).k = 14 := by
  cases h with
  | app h h' => exact absurd (show (15 : Int) = 5 from h) (by omega)
  | zero h h' => exact absurd (show (15 : Int) = 9 from h) (by omega)
  | succ h h' => exact absurd (show (15 : Int) = 9 from h) (by omega)
  | move h h' => exact absurd (show (15 : Int) = 12 from h) (by omega)
  | fst h h' => exact h'
  | snd h h' => exact absurd (show (15 : Int) = 16 from h) (by omega)
 cases q <;> first | exact ⟨_, _, _, rfl⟩ | (simp only [of, T.k] at h'; omega)
theorem rx_snd {q : Tm} (h : Rx (.mk 16 0 [of q])) : ∃ s a b, q = pair s a b := by
 have h' : (of q).k = 14 := by
  cases h with
  | app h h' => exact absurd (show (16 : Int) = 5 from h) (by omega)
  | zero h h' => exact absurd (show (16 : Int) = 9 from h) (by omega)
  | succ h h' => exact absurd (show (16 : Int) = 9 from h) (by omega)
  | move h h' => exact absurd (show (16 : Int) = 12 from h) (by omega)
  | fst h h' => exact absurd (show (16 : Int) = 15 from h) (by omega)
  | snd h h' => exact h'
 cases q <;> first | exact ⟨_, _, _, rfl⟩ | (simp only [of, T.k] at h'; omega)
theorem size_sub (t : Tm) : ∀ (σ : Nat → Tm) (K : Nat), 1 ≤ K → (∀ n, (of (σ n)).size ≤ K) → (of (t.sub σ)).size ≤ (of t).size * K := by
 have hu : ∀ {σ : Nat → Tm} {K : Nat}, 1 ≤ K → (∀ n, (of (σ n)).size ≤ K) → ∀ n, (of (ups σ n)).size ≤ K := by
  intro σ K h1 h n
  cases n with
  | zero => simpa [ups, of, T.size, T.sizeL] using h1
  | succ n => show (of (σ n).wk).size ≤ K; rw [wk, size_ren]; exact h n
 induction t with
 | var n => intro σ K h1 h; simpa [sub, of, T.size, T.sizeL] using h n
 | sort n => intro σ K h1 h; simpa [sub, of, T.size, T.sizeL] using h1
 | nat => intro σ K h1 h; simpa [sub, of, T.size, T.sizeL] using h1
 | zero => intro σ K h1 h; simpa [sub, of, T.size, T.sizeL] using h1
 | succ a ha => intro σ K h1 h; have := ha σ K h1 h; simp only [sub, of, T.size, T.sizeL, Nat.add_mul, Nat.one_mul, Nat.zero_mul, Nat.add_zero]; omega
 | refl a ha => intro σ K h1 h; have := ha σ K h1 h; simp only [sub, of, T.size, T.sizeL, Nat.add_mul, Nat.one_mul, Nat.zero_mul, Nat.add_zero]; omega
 | fst a ha => intro σ K h1 h; have := ha σ K h1 h; simp only [sub, of, T.size, T.sizeL, Nat.add_mul, Nat.one_mul, Nat.zero_mul, Nat.add_zero]; omega
 | snd a ha => intro σ K h1 h; have := ha σ K h1 h; simp only [sub, of, T.size, T.sizeL, Nat.add_mul, Nat.one_mul, Nat.zero_mul, Nat.add_zero]; omega
 | pi a b ha hb => intro σ K h1 h; have := ha σ K h1 h; have := hb (ups σ) K h1 (hu h1 h); simp only [sub, of, T.size, T.sizeL, Nat.add_mul, Nat.one_mul, Nat.zero_mul, Nat.add_zero]; omega
 | sig a b ha hb => intro σ K h1 h; have := ha σ K h1 h; have := hb (ups σ) K h1 (hu h1 h); simp only [sub, of, T.size, T.sizeL, Nat.add_mul, Nat.one_mul, Nat.zero_mul, Nat.add_zero]; omega
 | lam a b ha hb => intro σ K h1 h; have := ha σ K h1 h; have := hb (ups σ) K h1 (hu h1 h); simp only [sub, of, T.size, T.sizeL, Nat.add_mul, Nat.one_mul, Nat.zero_mul, Nat.add_zero]; omega
 | app a b ha hb => intro σ K h1 h; have := ha σ K h1 h; have := hb σ K h1 h; simp only [sub, of, T.size, T.sizeL, Nat.add_mul, Nat.one_mul, Nat.zero_mul, Nat.add_zero]; omega
 | id a b c ha hb hc => intro σ K h1 h; have := ha σ K h1 h; have := hb σ K h1 h; have := hc σ K h1 h; simp only [sub, of, T.size, T.sizeL, Nat.add_mul, Nat.one_mul, Nat.zero_mul, Nat.add_zero]; omega
 | move a b c ha hb hc => intro σ K h1 h; have := ha σ K h1 h; have := hb σ K h1 h; have := hc σ K h1 h; simp only [sub, of, T.size, T.sizeL, Nat.add_mul, Nat.one_mul, Nat.zero_mul, Nat.add_zero]; omega
 | pair a b c ha hb hc => intro σ K h1 h; have := ha σ K h1 h; have := hb σ K h1 h; have := hc σ K h1 h; simp only [sub, of, T.size, T.sizeL, Nat.add_mul, Nat.one_mul, Nat.zero_mul, Nat.add_zero]; omega
 | elim a b c d ha hb hc hd => intro σ K h1 h; have := ha σ K h1 h; have := hb σ K h1 h; have := hc σ K h1 h; have := hd σ K h1 h; simp only [sub, of, T.size, T.sizeL, Nat.add_mul, Nat.one_mul, Nat.zero_mul, Nat.add_zero]; omega
theorem cl_sub {t : Tm} : ∀ {d e : Nat} {σ : Nat → Tm}, cl d t → (∀ n, n < d → cl e (σ n)) → cl e (t.sub σ) := by
 have hu : ∀ {d e : Nat} {σ : Nat → Tm}, (∀ n, n < d → cl e (σ n)) → ∀ n, n < d + 1 → cl (e + 1) (ups σ n) := by
  intro d e σ h n hn
  cases n with
  | zero => exact Nat.succ_pos _
  | succ n => exact cl_ren (h n (by omega)) fun i hi => by omega
 induction t with
 | var n => exact fun h k => k n h
 | sort n => intros; trivial
 | nat => intros; trivial
 | zero => intros; trivial
 | succ a ha => exact fun h k => ha h k
 | refl a ha => exact fun h k => ha h k
 | fst a ha => exact fun h k => ha h k
 | snd a ha => exact fun h k => ha h k
 | pi a b ha hb => exact fun h k => ⟨ha h.1 k, hb h.2 (hu k)⟩
 | sig a b ha hb => exact fun h k => ⟨ha h.1 k, hb h.2 (hu k)⟩
 | lam a b ha hb => exact fun h k => ⟨ha h.1 k, hb h.2 (hu k)⟩
 | app a b ha hb => exact fun h k => ⟨ha h.1 k, hb h.2 k⟩
 | id a b c ha hb hc => exact fun h k => ⟨ha h.1 k, hb h.2.1 k, hc h.2.2 k⟩
 | move a b c ha hb hc => exact fun h k => ⟨ha h.1 k, hb h.2.1 k, hc h.2.2 k⟩
 | pair a b c ha hb hc => exact fun h k => ⟨ha h.1 k, hb h.2.1 k, hc h.2.2 k⟩
 | elim a b c e ha hb hc he => exact fun h k => ⟨ha h.1 k, hb h.2.1 k, hc h.2.2.1 k, he h.2.2.2 k⟩
theorem srt_sub {t : Tm} : ∀ {σ : Nat → Tm}, srt t → (∀ n, srt (σ n)) → srt (t.sub σ) := by
 have hu : ∀ {σ : Nat → Tm}, (∀ n, srt (σ n)) → ∀ n, srt (ups σ n) := by
  intro σ h n
  cases n with
  | zero => trivial
  | succ n => exact srt_ren (h n)
 induction t with
 | var n => exact fun h k => k n
 | sort n => exact fun h k => h
 | nat => intros; trivial
 | zero => intros; trivial
 | succ a ha => exact fun h k => ha h k
 | refl a ha => exact fun h k => ha h k
 | fst a ha => exact fun h k => ha h k
 | snd a ha => exact fun h k => ha h k
 | pi a b ha hb => exact fun h k => ⟨ha h.1 k, hb h.2 (hu k)⟩
 | sig a b ha hb => exact fun h k => ⟨ha h.1 k, hb h.2 (hu k)⟩
 | lam a b ha hb => exact fun h k => ⟨ha h.1 k, hb h.2 (hu k)⟩
 | app a b ha hb => exact fun h k => ⟨ha h.1 k, hb h.2 k⟩
 | id a b c ha hb hc => exact fun h k => ⟨ha h.1 k, hb h.2.1 k, hc h.2.2 k⟩
 | move a b c ha hb hc => exact fun h k => ⟨ha h.1 k, hb h.2.1 k, hc h.2.2 k⟩
 | pair a b c ha hb hc => exact fun h k => ⟨ha h.1 k, hb h.2.1 k, hc h.2.2 k⟩
 | elim a b c e ha hb hc he => exact fun h k => ⟨ha h.1 k, hb h.2.1 k, hc h.2.2.1 k, he h.2.2.2 k⟩
theorem cl_inst {b u : Tm} {d : Nat} (h : cl (d + 1) b) (k : cl d u) : cl d (b.inst u) := cl_sub h fun n hn => by
 cases n with
 | zero => exact k
 | succ n => show n < d; omega
theorem srt_inst {b u : Tm} (h : srt b) (k : srt u) : srt (b.inst u) := srt_sub h fun n => by
 cases n with
 | zero => exact k
 | succ n => trivial
def Hk : Nat → Nat
 | 1 => 1
 | 2 => 2
 | 3 => 4
 | 4 => 6
 | _ => 0
def Sk : Nat → Nat
 | 1 => 1
 | 2 => 5
 | 3 => 25
 | 4 => 125
 | _ => 0
theorem num1 {k : Nat} (h : 1 ≤ k) (h' : k ≤ 3) : Hk k + 1 ≤ Hk (k + 1) ∧ 1 + 4 * Sk k ≤ Sk (k + 1) := by
 rcases (by omega : k = 1 ∨ k = 2 ∨ k = 3) with rfl | rfl | rfl <;> decide
theorem num2 {j : Nat} (h : 1 ≤ j) (h' : j ≤ 2) : Hk j + Hk (j + 1) ≤ Hk (j + 1 + 1) + 1 ∧ Sk j * Sk (j + 1) ≤ Sk (j + 1 + 1) ∧ Hk (j + 1) + 2 ≤ Hk (j + 1 + 1) ∧ 3 + 4 * Sk (j + 1) + 2 * Sk j ≤ Sk (j + 1 + 1) ∧ Hk j + 1 ≤ Hk (j + 1) ∧ Sk j + 4 ≤ Sk (j + 1) := by
 rcases (by omega : j = 1 ∨ j = 2) with rfl | rfl <;> decide
theorem hpos {a : Tm} {k : Nat} (h : ht a ≤ k) : 1 ≤ k := by have := ht_pos a; omega
theorem dev_ok (k : Nat) (m : Tm) (d : Nat) (h : ht m ≤ k) (hk : k ≤ 4) (c : cl d m) (s : srt m) : ∃ u, devT (of m) = of u ∧ ht u ≤ Hk k ∧ (of u).size ≤ Sk k ∧ cl d u ∧ srt u := by
 obtain ⟨k, rfl⟩ : ∃ j, k = j + 1 := ⟨k - 1, by have := ht_pos m; omega⟩
 have ih := fun (a : Tm) (e : Nat) (ha : ht a ≤ k) => dev_ok k a e ha (by omega)
 have one : 1 ≤ Hk (k + 1) ∧ 1 ≤ Sk (k + 1) := by rcases (by omega : k = 0 ∨ k = 1 ∨ k = 2 ∨ k = 3) with rfl | rfl | rfl | rfl <;> decide
 cases m with
 | var n => exact ⟨.var n, by rw [of, dev_node (not_rx (by omega)), devL], one.1, one.2, c, s⟩
 | sort n => exact ⟨.sort n, by rw [of, dev_node (not_rx (by omega)), devL], one.1, one.2, c, s⟩
 | nat => exact ⟨.nat, by rw [of, dev_node (not_rx (by omega)), devL], one.1, one.2, c, s⟩
 | zero => exact ⟨.zero, by rw [of, dev_node (not_rx (by omega)), devL], one.1, one.2, c, s⟩
 | pi a b =>
  simp only [ht] at h
  obtain ⟨a', ea, ha, za, ca, sa⟩ := ih a d (by omega) c.1 s.1
  obtain ⟨b', eb, hb, zb, cb, sb⟩ := ih b (d + 1) (by omega) c.2 s.2
  have hk0 := hpos (a := a) (k := k) (by omega)
  obtain ⟨hH, hS⟩ := num1 hk0 (by omega)
  refine ⟨.pi a' b', ?_, by simp only [ht]; omega, by simp only [of, T.size, T.sizeL]; omega, ⟨ca, cb⟩, ⟨sa, sb⟩⟩
  rw [of, dev_node (not_rx (by omega)), devL, devL, devL]
  rw [ea, eb]; rfl
 | sig a b =>
  simp only [ht] at h
  obtain ⟨a', ea, ha, za, ca, sa⟩ := ih a d (by omega) c.1 s.1
  obtain ⟨b', eb, hb, zb, cb, sb⟩ := ih b (d + 1) (by omega) c.2 s.2
  have hk0 := hpos (a := a) (k := k) (by omega)
  obtain ⟨hH, hS⟩ := num1 hk0 (by omega)
  refine ⟨.sig a' b', ?_, by simp only [ht]; omega, by simp only [of, T.size, T.sizeL]; omega, ⟨ca, cb⟩, ⟨sa, sb⟩⟩
  rw [of, dev_node (not_rx (by omega)), devL, devL, devL]
  rw [ea, eb]; rfl
 | lam a b =>
  simp only [ht] at h
  obtain ⟨a', ea, ha, za, ca, sa⟩ := ih a d (by omega) c.1 s.1
  obtain ⟨b', eb, hb, zb, cb, sb⟩ := ih b (d + 1) (by omega) c.2 s.2
  have hk0 := hpos (a := a) (k := k) (by omega)
  obtain ⟨hH, hS⟩ := num1 hk0 (by omega)
  refine ⟨.lam a' b', ?_, by simp only [ht]; omega, by simp only [of, T.size, T.sizeL]; omega, ⟨ca, cb⟩, ⟨sa, sb⟩⟩
  rw [of, dev_node (not_rx (by omega)), devL, devL, devL]
  rw [ea, eb]; rfl
 | id a b e =>
  simp only [ht] at h
  obtain ⟨a', ea, ha, za, ca, sa⟩ := ih a d (by omega) c.1 s.1
  obtain ⟨b', eb, hb, zb, cb, sb⟩ := ih b d (by omega) c.2.1 s.2.1
  obtain ⟨c', ec, hc, zc, cc, sc⟩ := ih e d (by omega) c.2.2 s.2.2
  have hk0 := hpos (a := a) (k := k) (by omega)
  obtain ⟨hH, hS⟩ := num1 hk0 (by omega)
  refine ⟨.id a' b' c', ?_, by simp only [ht]; omega, by simp only [of, T.size, T.sizeL]; omega, ⟨ca, cb, cc⟩, ⟨sa, sb, sc⟩⟩
  rw [of, dev_node (not_rx (by omega)), devL, devL, devL, devL]
  rw [ea, eb, ec]; rfl
 | pair a b e =>
  simp only [ht] at h
  obtain ⟨a', ea, ha, za, ca, sa⟩ := ih a d (by omega) c.1 s.1
  obtain ⟨b', eb, hb, zb, cb, sb⟩ := ih b d (by omega) c.2.1 s.2.1
  obtain ⟨c', ec, hc, zc, cc, sc⟩ := ih e d (by omega) c.2.2 s.2.2
  have hk0 := hpos (a := a) (k := k) (by omega)
  obtain ⟨hH, hS⟩ := num1 hk0 (by omega)
  refine ⟨.pair a' b' c', ?_, by simp only [ht]; omega, by simp only [of, T.size, T.sizeL]; omega, ⟨ca, cb, cc⟩, ⟨sa, sb, sc⟩⟩
  rw [of, dev_node (not_rx (by omega)), devL, devL, devL, devL]
  rw [ea, eb, ec]; rfl
 | succ a =>
  simp only [ht] at h
  obtain ⟨a', ea, ha, za, ca, sa⟩ := ih a d (by omega) c s
  have hk0 := hpos (a := a) (k := k) (by omega)
  obtain ⟨hH, hS⟩ := num1 hk0 (by omega)
  refine ⟨.succ a', ?_, by simp only [ht]; omega, by simp only [of, T.size, T.sizeL]; omega, ca, sa⟩
  rw [of, dev_node (not_rx (by omega)), devL, devL]
  rw [ea]; rfl
 | refl a =>
  simp only [ht] at h
  obtain ⟨a', ea, ha, za, ca, sa⟩ := ih a d (by omega) c s
  have hk0 := hpos (a := a) (k := k) (by omega)
  obtain ⟨hH, hS⟩ := num1 hk0 (by omega)
  refine ⟨.refl a', ?_, by simp only [ht]; omega, by simp only [of, T.size, T.sizeL]; omega, ca, sa⟩
  rw [of, dev_node (not_rx (by omega)), devL, devL]
  rw [ea]; rfl
 | app a b =>
  simp only [ht] at h
  obtain ⟨a', ea, ha, za, ca, sa⟩ := ih a d (by omega) c.1 s.1
  obtain ⟨b', eb, hb, zb, cb, sb⟩ := ih b d (by omega) c.2 s.2
  have hk0 := hpos (a := a) (k := k) (by omega)
  obtain ⟨hH, hS⟩ := num1 hk0 (by omega)
  by_cases hr : Rx (of (.app a b))
  ·rw [of] at hr ⊢
   rw [dev_red hr, devL, devL, devL]
   obtain ⟨A, B, rfl⟩ := rx_app hr
   simp only [ht] at h
   obtain ⟨j, rfl⟩ : ∃ j, k = j + 1 := ⟨k - 1, by have := ht_pos A; omega⟩
   obtain ⟨A', eA, _⟩ := dev_ok j A d (by omega) (by omega) c.1.1 s.1.1
   obtain ⟨B', eB, hB, zB, cB, sB⟩ := dev_ok j B (d + 1) (by omega) (by omega) c.1.2 s.1.2
   obtain ⟨n1, n2, n3, n4, n5, n6⟩ := num2 (j := j) (by have := ht_pos A; omega) (by omega)
   refine ⟨B'.inst b', ?_, by have := ht_inst B' b'; omega, ?_, cl_inst cB cb, srt_inst sB sb⟩
   ·rw [eb, of, dev_node (not_rx (by omega)), devL, devL, devL, eA, eB]
    exact of_inst B' b'
   ·have hp := Nat.mul_le_mul zB zb
    have := size_sub B' (sc b' var) (of b').size (by have := size_pos (of b'); omega) (fun i => by
     cases i with
     | zero => exact Nat.le_refl _
     | succ i => have := size_pos (of b'); simpa [sc, of, T.size, T.sizeL] using this)
    have hq : (of B').size * (of b').size ≤ Sk (j + 1 + 1) := Nat.le_trans hp n2
    exact Nat.le_trans this hq
  ·refine ⟨.app a' b', ?_, by simp only [ht]; omega, by simp only [of, T.size, T.sizeL]; omega, ⟨ca, cb⟩, ⟨sa, sb⟩⟩
   rw [of] at hr ⊢
   rw [dev_node hr, devL, devL, devL, ea, eb]; rfl
 | elim a b e f =>
  simp only [ht] at h
  obtain ⟨a', ea, ha, za, ca, sa⟩ := ih a d (by omega) c.1 s.1
  obtain ⟨b', eb, hb, zb, cb, sb⟩ := ih b d (by omega) c.2.1 s.2.1
  obtain ⟨c', ec, hc, zc, cc, sc⟩ := ih e d (by omega) c.2.2.1 s.2.2.1
  obtain ⟨f', ef, hf, zf, cf, sf⟩ := ih f d (by omega) c.2.2.2 s.2.2.2
  have hk0 := hpos (a := a) (k := k) (by omega)
  obtain ⟨hH, hS⟩ := num1 hk0 (by omega)
  by_cases hr : Rx (of (.elim a b e f))
  ·rw [of] at hr ⊢
   rw [dev_red hr, devL, devL, devL, devL, devL]
   rcases rx_elim hr with rfl | ⟨N, rfl⟩
   ·refine ⟨b', ?_, by omega, by omega, cb, sb⟩
    rw [ea, eb, ec]; rfl
   ·simp only [ht] at h
    obtain ⟨j, rfl⟩ : ∃ j, k = j + 1 := ⟨k - 1, by have := ht_pos N; omega⟩
    obtain ⟨N', eN, hN, zN, cN, sN⟩ := dev_ok j N d (by omega) (by omega) c.2.2.2 s.2.2.2
    obtain ⟨n1, n2, n3, n4, n5, n6⟩ := num2 (j := j) (by have := ht_pos N; omega) (by omega)
    refine ⟨.app (.app c' N') (.elim a' b' c' N'), ?_, by simp only [ht]; omega, by simp only [of, T.size, T.sizeL]; omega, ⟨⟨cc, cN⟩, ca, cb, cc, cN⟩, ⟨sc, sN⟩, sa, sb, sc, sN⟩
    have e1 : devT (of (.succ N)) = .mk 8 0 [of N'] := by rw [of, dev_node (not_rx (by omega)), devL, devL, eN]
    rw [ea, eb, ec, e1]; rfl
  ·refine ⟨.elim a' b' c' f', ?_, by simp only [ht]; omega, by simp only [of, T.size, T.sizeL]; omega, ⟨ca, cb, cc, cf⟩, ⟨sa, sb, sc, sf⟩⟩
   rw [of] at hr ⊢
   rw [dev_node hr, devL, devL, devL, devL, devL, ea, eb, ec, ef]; rfl
 | move a b e =>
  simp only [ht] at h
  obtain ⟨a', ea, ha, za, ca, sa⟩ := ih a d (by omega) c.1 s.1
  obtain ⟨b', eb, hb, zb, cb, sb⟩ := ih b d (by omega) c.2.1 s.2.1
  obtain ⟨c', ec, hc, zc, cc, sc⟩ := ih e d (by omega) c.2.2 s.2.2
  have hk0 := hpos (a := a) (k := k) (by omega)
  obtain ⟨hH, hS⟩ := num1 hk0 (by omega)
  by_cases hr : Rx (of (.move a b e))
  ·rw [of] at hr ⊢
   rw [dev_red hr, devL, devL, devL, devL]
   obtain ⟨A, rfl⟩ := rx_move hr
   refine ⟨c', ?_, by omega, by omega, cc, sc⟩
   rw [ec]; rfl
  ·refine ⟨.move a' b' c', ?_, by simp only [ht]; omega, by simp only [of, T.size, T.sizeL]; omega, ⟨ca, cb, cc⟩, ⟨sa, sb, sc⟩⟩
   rw [of] at hr ⊢
   rw [dev_node hr, devL, devL, devL, devL, ea, eb, ec]; rfl
 | fst a =>
  simp only [ht] at h
  obtain ⟨a', ea, ha, za, ca, sa⟩ := ih a d (by omega) c s
  have hk0 := hpos (a := a) (k := k) (by omega)
  obtain ⟨hH, hS⟩ := num1 hk0 (by omega)
  by_cases hr : Rx (of (.fst a))
  ·rw [of] at hr ⊢
   rw [dev_red hr, devL, devL]
   obtain ⟨S, A, B, rfl⟩ := rx_fst hr
   simp only [ht] at h
   obtain ⟨j, rfl⟩ : ∃ j, k = j + 1 := ⟨k - 1, by have := ht_pos S; omega⟩
   obtain ⟨X, eX, hX, zX, cX, sX⟩ := dev_ok j A d (by omega) (by omega) c.2.1 s.2.1
   obtain ⟨n1, n2, n3, n4, n5, n6⟩ := num2 (j := j) (by have := ht_pos S; omega) (by omega)
   refine ⟨X, ?_, by omega, by omega, cX, sX⟩
   rw [of, dev_node (not_rx (by omega)), devL, devL, devL, devL, ← eX]; rfl
  ·refine ⟨.fst a', ?_, by simp only [ht]; omega, by simp only [of, T.size, T.sizeL]; omega, ca, sa⟩
   rw [of] at hr ⊢
   rw [dev_node hr, devL, devL, ea]; rfl
 | snd a =>
  simp only [ht] at h
  obtain ⟨a', ea, ha, za, ca, sa⟩ := ih a d (by omega) c s
  have hk0 := hpos (a := a) (k := k) (by omega)
  obtain ⟨hH, hS⟩ := num1 hk0 (by omega)
  by_cases hr : Rx (of (.snd a))
  ·rw [of] at hr ⊢
   rw [dev_red hr, devL, devL]
   obtain ⟨S, A, B, rfl⟩ := rx_snd hr
   simp only [ht] at h
   obtain ⟨j, rfl⟩ : ∃ j, k = j + 1 := ⟨k - 1, by have := ht_pos S; omega⟩
   obtain ⟨X, eX, hX, zX, cX, sX⟩ := dev_ok j B d (by omega) (by omega) c.2.2 s.2.2
   obtain ⟨n1, n2, n3, n4, n5, n6⟩ := num2 (j := j) (by have := ht_pos S; omega) (by omega)
   refine ⟨X, ?_, by omega, by omega, cX, sX⟩
   rw [of, dev_node (not_rx (by omega)), devL, devL, devL, devL, ← eX]; rfl
  ·refine ⟨.snd a', ?_, by simp only [ht]; omega, by simp only [of, T.size, T.sizeL]; omega, ca, sa⟩
   rw [of] at hr ⊢
   rw [dev_node hr, devL, devL, ea]; rfl
termination_by k
decreasing_by all_goals omega
theorem dev_vd {m : Tm} {d : Nat} (h : ht m ≤ 4) (hd : d + ht m ≤ 13) (c : cl d m) (s : srt m) : validB (devT (of m)) = true := by
 obtain ⟨u, e, h1, h2, h3, h4⟩ := dev_ok 4 m d h (by omega) c s
 have := ht_pos m
 rw [e]
 exact vd_of h3 h4 (by simp only [Hk] at h1; omega) (by omega) (by simp only [Sk] at h2; omega)
theorem of_kids_pi (a b : Tm) : of (.pi a b) = .mk 3 0 [of a, of b] := rfl
theorem of_kids_sig (a b : Tm) : of (.sig a b) = .mk 13 0 [of a, of b] := rfl
theorem of_kids_lam (a b : Tm) : of (.lam a b) = .mk 4 0 [of a, of b] := rfl
theorem of_kids_id (a b e : Tm) : of (.id a b e) = .mk 10 0 [of a, of b, of e] := rfl
theorem of_kids_pair (a b e : Tm) : of (.pair a b e) = .mk 14 0 [of a, of b, of e] := rfl
theorem of_kids_succ (a : Tm) : of (.succ a) = .mk 8 0 [of a] := rfl
theorem of_kids_refl (a : Tm) : of (.refl a) = .mk 11 0 [of a] := rfl
theorem of_kids_app (a b : Tm) : of (.app a b) = .mk 5 0 [of a, of b] := rfl
theorem of_kids_elim (a b e f : Tm) : of (.elim a b e f) = .mk 9 0 [of a, of b, of e, of f] := rfl
theorem of_kids_move (a b e : Tm) : of (.move a b e) = .mk 12 0 [of a, of b, of e] := rfl
theorem of_kids_fst (a : Tm) : of (.fst a) = .mk 15 0 [of a] := rfl
theorem of_kids_snd (a : Tm) : of (.snd a) = .mk 16 0 [of a] := rfl
theorem okD_of {m : Tm} : ∀ {d : Nat}, ht m ≤ 4 → d + ht m ≤ 13 → cl d m → srt m → okD (of m) = true := by
 have leaf : ∀ {m : Tm} {k n : Int}, of m = .mk k n [] → ¬ Rx (.mk k n []) → validB (of m) = true → okD (of m) = true := fun e hr v => by
  refine okD_node e rfl ?_ ?_
  ·rw [devL, ← e]; exact v
  ·rw [e, dev_node hr, devL, ← e]; exact v
 induction m with
 | var n => intro d h hd c s; exact leaf (k := 1) rfl (not_rx (by omega)) (vd_of (d := d) c s (by simp [ht]) (by simp only [ht] at hd; omega) (by simp [of, T.size, T.sizeL]))
 | sort n => intro d h hd c s; exact leaf (k := 2) rfl (not_rx (by omega)) (vd_of (d := d) c s (by simp [ht]) (by simp only [ht] at hd; omega) (by simp [of, T.size, T.sizeL]))
 | nat => intro d h hd c s; exact leaf (k := 6) rfl (not_rx (by omega)) (by decide +kernel)
 | zero => intro d h hd c s; exact leaf (k := 7) rfl (not_rx (by omega)) (by decide +kernel)
 | pi a b ja jb =>
  intro d h hd c s
  have h' := h
  simp only [ht] at h hd
  obtain ⟨a', ea, ha, za, ca, sa⟩ := dev_ok 3 a d (by omega) (by omega) c.1 s.1
  have qa := ja (d := d) (by omega) (by omega) c.1 s.1
  obtain ⟨b', eb, hb, zb, cb, sb⟩ := dev_ok 3 b (d + 1) (by omega) (by omega) c.2 s.2
  have qb := jb (d := (d + 1)) (by omega) (by omega) c.2 s.2
  have vn : vdM (.pi a' b') = true := vd_of (d := d) ⟨ca, cb⟩ ⟨sa, sb⟩ (by simp only [ht, Hk] at *; omega) (by omega) (by simp only [of, T.size, T.sizeL, Sk] at *; omega)
  exact okD_node (of_kids_pi a b) (by simp only [okDL, qa, qb, Bool.and_self]) (by show validB (.mk 3 0 (devL [of a, of b])) = true; simp only [devL, ea, eb]; exact vn) (dev_vd h' (by simp only [ht]; omega) c s)
 | sig a b ja jb =>
  intro d h hd c s
  have h' := h
  simp only [ht] at h hd
  obtain ⟨a', ea, ha, za, ca, sa⟩ := dev_ok 3 a d (by omega) (by omega) c.1 s.1
  have qa := ja (d := d) (by omega) (by omega) c.1 s.1
  obtain ⟨b', eb, hb, zb, cb, sb⟩ := dev_ok 3 b (d + 1) (by omega) (by omega) c.2 s.2
  have qb := jb (d := (d + 1)) (by omega) (by omega) c.2 s.2
  have vn : vdM (.sig a' b') = true := vd_of (d := d) ⟨ca, cb⟩ ⟨sa, sb⟩ (by simp only [ht, Hk] at *; omega) (by omega) (by simp only [of, T.size, T.sizeL, Sk] at *; omega)
  exact okD_node (of_kids_sig a b) (by simp only [okDL, qa, qb, Bool.and_self]) (by show validB (.mk 13 0 (devL [of a, of b])) = true; simp only [devL, ea, eb]; exact vn) (dev_vd h' (by simp only [ht]; omega) c s)
 | lam a b ja jb =>
  intro d h hd c s
  have h' := h
  simp only [ht] at h hd
  obtain ⟨a', ea, ha, za, ca, sa⟩ := dev_ok 3 a d (by omega) (by omega) c.1 s.1
  have qa := ja (d := d) (by omega) (by omega) c.1 s.1
  obtain ⟨b', eb, hb, zb, cb, sb⟩ := dev_ok 3 b (d + 1) (by omega) (by omega) c.2 s.2
  have qb := jb (d := (d + 1)) (by omega) (by omega) c.2 s.2
  have vn : vdM (.lam a' b') = true := vd_of (d := d) ⟨ca, cb⟩ ⟨sa, sb⟩ (by simp only [ht, Hk] at *; omega) (by omega) (by simp only [of, T.size, T.sizeL, Sk] at *; omega)
  exact okD_node (of_kids_lam a b) (by simp only [okDL, qa, qb, Bool.and_self]) (by show validB (.mk 4 0 (devL [of a, of b])) = true; simp only [devL, ea, eb]; exact vn) (dev_vd h' (by simp only [ht]; omega) c s)
 | id a b e ja jb jc =>
  intro d h hd c s
  have h' := h
  simp only [ht] at h hd
  obtain ⟨a', ea, ha, za, ca, sa⟩ := dev_ok 3 a d (by omega) (by omega) c.1 s.1
  have qa := ja (d := d) (by omega) (by omega) c.1 s.1
  obtain ⟨b', eb, hb, zb, cb, sb⟩ := dev_ok 3 b d (by omega) (by omega) c.2.1 s.2.1
  have qb := jb (d := d) (by omega) (by omega) c.2.1 s.2.1
  obtain ⟨c', ec, hc, zc, cc, sc⟩ := dev_ok 3 e d (by omega) (by omega) c.2.2 s.2.2
  have qc := jc (d := d) (by omega) (by omega) c.2.2 s.2.2
  have vn : vdM (.id a' b' c') = true := vd_of (d := d) ⟨ca, cb, cc⟩ ⟨sa, sb, sc⟩ (by simp only [ht, Hk] at *; omega) (by omega) (by simp only [of, T.size, T.sizeL, Sk] at *; omega)
  exact okD_node (of_kids_id a b e) (by simp only [okDL, qa, qb, qc, Bool.and_self]) (by show validB (.mk 10 0 (devL [of a, of b, of e])) = true; simp only [devL, ea, eb, ec]; exact vn) (dev_vd h' (by simp only [ht]; omega) c s)
 | pair a b e ja jb jc =>
  intro d h hd c s
  have h' := h
  simp only [ht] at h hd
  obtain ⟨a', ea, ha, za, ca, sa⟩ := dev_ok 3 a d (by omega) (by omega) c.1 s.1
  have qa := ja (d := d) (by omega) (by omega) c.1 s.1
  obtain ⟨b', eb, hb, zb, cb, sb⟩ := dev_ok 3 b d (by omega) (by omega) c.2.1 s.2.1
  have qb := jb (d := d) (by omega) (by omega) c.2.1 s.2.1
  obtain ⟨c', ec, hc, zc, cc, sc⟩ := dev_ok 3 e d (by omega) (by omega) c.2.2 s.2.2
  have qc := jc (d := d) (by omega) (by omega) c.2.2 s.2.2
  have vn : vdM (.pair a' b' c') = true := vd_of (d := d) ⟨ca, cb, cc⟩ ⟨sa, sb, sc⟩ (by simp only [ht, Hk] at *; omega) (by omega) (by simp only [of, T.size, T.sizeL, Sk] at *; omega)
  exact okD_node (of_kids_pair a b e) (by simp only [okDL, qa, qb, qc, Bool.and_self]) (by show validB (.mk 14 0 (devL [of a, of b, of e])) = true; simp only [devL, ea, eb, ec]; exact vn) (dev_vd h' (by simp only [ht]; omega) c s)
 | succ a ja =>
  intro d h hd c s
  have h' := h
  simp only [ht] at h hd
  obtain ⟨a', ea, ha, za, ca, sa⟩ := dev_ok 3 a d (by omega) (by omega) c s
  have qa := ja (d := d) (by omega) (by omega) c s
  have vn : vdM (.succ a') = true := vd_of (d := d) ca sa (by simp only [ht, Hk] at *; omega) (by omega) (by simp only [of, T.size, T.sizeL, Sk] at *; omega)
  exact okD_node (of_kids_succ a) (by simp only [okDL, qa, Bool.and_self]) (by show validB (.mk 8 0 (devL [of a])) = true; simp only [devL, ea]; exact vn) (dev_vd h' (by simp only [ht]; omega) c s)
 | refl a ja =>
  intro d h hd c s
  have h' := h
  simp only [ht] at h hd
  obtain ⟨a', ea, ha, za, ca, sa⟩ := dev_ok 3 a d (by omega) (by omega) c s
  have qa := ja (d := d) (by omega) (by omega) c s
  have vn : vdM (.refl a') = true := vd_of (d := d) ca sa (by simp only [ht, Hk] at *; omega) (by omega) (by simp only [of, T.size, T.sizeL, Sk] at *; omega)
  exact okD_node (of_kids_refl a) (by simp only [okDL, qa, Bool.and_self]) (by show validB (.mk 11 0 (devL [of a])) = true; simp only [devL, ea]; exact vn) (dev_vd h' (by simp only [ht]; omega) c s)
 | app a b ja jb =>
  intro d h hd c s
  have h' := h
  simp only [ht] at h hd
  obtain ⟨a', ea, ha, za, ca, sa⟩ := dev_ok 3 a d (by omega) (by omega) c.1 s.1
  have qa := ja (d := d) (by omega) (by omega) c.1 s.1
  obtain ⟨b', eb, hb, zb, cb, sb⟩ := dev_ok 3 b d (by omega) (by omega) c.2 s.2
  have qb := jb (d := d) (by omega) (by omega) c.2 s.2
  have vn : vdM (.app a' b') = true := vd_of (d := d) ⟨ca, cb⟩ ⟨sa, sb⟩ (by simp only [ht, Hk] at *; omega) (by omega) (by simp only [of, T.size, T.sizeL, Sk] at *; omega)
  exact okD_node (of_kids_app a b) (by simp only [okDL, qa, qb, Bool.and_self]) (by show validB (.mk 5 0 (devL [of a, of b])) = true; simp only [devL, ea, eb]; exact vn) (dev_vd h' (by simp only [ht]; omega) c s)
 | elim a b e f ja jb jc jf =>
  intro d h hd c s
  have h' := h
  simp only [ht] at h hd
  obtain ⟨a', ea, ha, za, ca, sa⟩ := dev_ok 3 a d (by omega) (by omega) c.1 s.1
  have qa := ja (d := d) (by omega) (by omega) c.1 s.1
  obtain ⟨b', eb, hb, zb, cb, sb⟩ := dev_ok 3 b d (by omega) (by omega) c.2.1 s.2.1
  have qb := jb (d := d) (by omega) (by omega) c.2.1 s.2.1
  obtain ⟨c', ec, hc, zc, cc, sc⟩ := dev_ok 3 e d (by omega) (by omega) c.2.2.1 s.2.2.1
  have qc := jc (d := d) (by omega) (by omega) c.2.2.1 s.2.2.1
  obtain ⟨f', ef, hf, zf, cf, sf⟩ := dev_ok 3 f d (by omega) (by omega) c.2.2.2 s.2.2.2
  have qf := jf (d := d) (by omega) (by omega) c.2.2.2 s.2.2.2
  have vn : vdM (.elim a' b' c' f') = true := vd_of (d := d) ⟨ca, cb, cc, cf⟩ ⟨sa, sb, sc, sf⟩ (by simp only [ht, Hk] at *; omega) (by omega) (by simp only [of, T.size, T.sizeL, Sk] at *; omega)
  exact okD_node (of_kids_elim a b e f) (by simp only [okDL, qa, qb, qc, qf, Bool.and_self]) (by show validB (.mk 9 0 (devL [of a, of b, of e, of f])) = true; simp only [devL, ea, eb, ec, ef]; exact vn) (dev_vd h' (by simp only [ht]; omega) c s)
 | move a b e ja jb jc =>
  intro d h hd c s
  have h' := h
  simp only [ht] at h hd
  obtain ⟨a', ea, ha, za, ca, sa⟩ := dev_ok 3 a d (by omega) (by omega) c.1 s.1
  have qa := ja (d := d) (by omega) (by omega) c.1 s.1
  obtain ⟨b', eb, hb, zb, cb, sb⟩ := dev_ok 3 b d (by omega) (by omega) c.2.1 s.2.1
  have qb := jb (d := d) (by omega) (by omega) c.2.1 s.2.1
  obtain ⟨c', ec, hc, zc, cc, sc⟩ := dev_ok 3 e d (by omega) (by omega) c.2.2 s.2.2
  have qc := jc (d := d) (by omega) (by omega) c.2.2 s.2.2
  have vn : vdM (.move a' b' c') = true := vd_of (d := d) ⟨ca, cb, cc⟩ ⟨sa, sb, sc⟩ (by simp only [ht, Hk] at *; omega) (by omega) (by simp only [of, T.size, T.sizeL, Sk] at *; omega)
  exact okD_node (of_kids_move a b e) (by simp only [okDL, qa, qb, qc, Bool.and_self]) (by show validB (.mk 12 0 (devL [of a, of b, of e])) = true; simp only [devL, ea, eb, ec]; exact vn) (dev_vd h' (by simp only [ht]; omega) c s)
 | fst a ja =>
  intro d h hd c s
  have h' := h
  simp only [ht] at h hd
  obtain ⟨a', ea, ha, za, ca, sa⟩ := dev_ok 3 a d (by omega) (by omega) c s
  have qa := ja (d := d) (by omega) (by omega) c s
  have vn : vdM (.fst a') = true := vd_of (d := d) ca sa (by simp only [ht, Hk] at *; omega) (by omega) (by simp only [of, T.size, T.sizeL, Sk] at *; omega)
  exact okD_node (of_kids_fst a) (by simp only [okDL, qa, Bool.and_self]) (by show validB (.mk 15 0 (devL [of a])) = true; simp only [devL, ea]; exact vn) (dev_vd h' (by simp only [ht]; omega) c s)
 | snd a ja =>
  intro d h hd c s
  have h' := h
  simp only [ht] at h hd
  obtain ⟨a', ea, ha, za, ca, sa⟩ := dev_ok 3 a d (by omega) (by omega) c s
  have qa := ja (d := d) (by omega) (by omega) c s
  have vn : vdM (.snd a') = true := vd_of (d := d) ca sa (by simp only [ht, Hk] at *; omega) (by omega) (by simp only [of, T.size, T.sizeL, Sk] at *; omega)
  exact okD_node (of_kids_snd a) (by simp only [okDL, qa, Bool.and_self]) (by show validB (.mk 16 0 (devL [of a])) = true; simp only [devL, ea]; exact vn) (dev_vd h' (by simp only [ht]; omega) c s)
theorem okD_succ {m : Tm} {d : Nat} (h : ht m ≤ 4) (hd : d + ht m ≤ 12) (c : cl d m) (s : srt m) : okD (of (.succ m)) = true := by
 obtain ⟨u, e, h1, h2, h3, h4⟩ := dev_ok 4 m d h (by omega) c s
 have hp := ht_pos m
 have v : vdM (.succ u) = true := vd_of (d := d) h3 h4 (by simp only [ht, Hk] at *; omega) (by omega) (by simp only [of, T.size, T.sizeL, Sk] at *; omega)
 refine okD_node (of_kids_succ m) (by simp only [okDL, okD_of h (by omega) c s, Bool.and_self]) ?_ ?_
 ·show validB (.mk 8 0 (devL [of m])) = true
  simp only [devL, e]; exact v
 ·rw [of_kids_succ, dev_node (not_rx (by omega)), devL, devL, e]; exact v
end Tm
end Go.Proofs.Ytgchmppmecnniaa
end
section
namespace Go.Proofs.Ytgchmppmecnniaa
open Go Go.Ab Go.Dk
def finI (k n : Int) (ts us : List T) : Option T :=
 if validB (.mk k n us) = true then (if Rx (.mk k n ts) then (if validB (contractT (.mk k n us)) = true then some (contractT (.mk k n us)) else none) else some (.mk k n us)) else none
mutual
def dvI : T → Option T
 | .mk k n ts => (dvIL ts).bind fun us => finI k n ts us
def dvIL : List T → Option (List T)
 | [] => some []
 | t :: ts => (dvI t).bind fun u => (dvIL ts).bind fun us => some (u :: us)
end
theorem parL_dev : ∀ ts : List T, ParL ts (devL ts)
 | [] => .nil
 | t :: ts => .cons (par_dev t) (parL_dev ts)
theorem rx_dev {k n : Int} {ts : List T} (h : Rx (.mk k n ts)) : Rx (.mk k n (devL ts)) := h.par (parL_dev ts)
mutual
theorem dvI_dev : ∀ (t x : T), dvI t = some x → x = devT t ∧ validB x = true
 | .mk k n ts, x, h => by
  rw [dvI] at h
  obtain ⟨us, h1, h2⟩ := Option.bind_eq_some_iff.1 h
  obtain ⟨rfl, _⟩ := dvIL_dev ts us h1
  unfold finI at h2
  split at h2
  ·rename_i hv
   split at h2
   ·rename_i hr
    split at h2
    ·rename_i hc
     rw [devT, if_pos hr]
     exact ⟨(Option.some.inj h2).symm, by rw [← Option.some.inj h2]; exact hc⟩
    ·cases h2
   ·rename_i hr
    rw [devT, if_neg hr]
    exact ⟨(Option.some.inj h2).symm, by rw [← Option.some.inj h2]; exact hv⟩
  ·cases h2
theorem dvIL_dev : ∀ (ts us : List T), dvIL ts = some us → us = devL ts ∧ ∀ u ∈ us, validB u = true
 | [], us, h => by
  rw [dvIL] at h
  rw [← Option.some.inj h]
  exact ⟨rfl, fun u hu => by cases hu⟩
 | t :: ts, us, h => by
  rw [dvIL] at h
  obtain ⟨u, h1, h2⟩ := Option.bind_eq_some_iff.1 h
  obtain ⟨us', h3, h4⟩ := Option.bind_eq_some_iff.1 h2
  obtain ⟨rfl, v1⟩ := dvI_dev t u h1
  obtain ⟨rfl, v2⟩ := dvIL_dev ts us' h3
  rw [← Option.some.inj h4]
  refine ⟨rfl, fun u hu => ?_⟩
  rcases List.mem_cons.1 hu with rfl | hu
  ·exact v1
  ·exact v2 u hu
end
mutual
theorem dvI_ok : ∀ t : T, okD t = true → dvI t = some (devT t)
 | .mk k n ts, h => by
  simp only [okD, Bool.and_eq_true] at h
  rw [dvI, dvIL_ok ts h.1]
  show finI k n ts (devL ts) = _
  unfold finI
  rw [if_pos h.2.1, devT]
  split
  ·rename_i hr
   have h3 := h.2.2
   rw [devT, if_pos hr] at h3
   rw [if_pos h3]
  ·rfl
theorem dvIL_ok : ∀ ts : List T, okDL ts = true → dvIL ts = some (devL ts)
 | [], _ => rfl
 | t :: ts, h => by
  simp only [okDL, Bool.and_eq_true] at h
  rw [dvIL, dvI_ok t h.1, dvIL_ok ts h.2]; rfl
end
def junk0 : T := .mk 0 0 []
def dvA (o : Option T) : OR := some ([tm (o.getD junk0), bl o.isSome], [])
theorem sizeL_valid {us : List T} (h : ∀ u ∈ us, validB u = true) : T.sizeL us ≤ us.length * 400 := by
 induction us with
 | nil => simp [T.sizeL]
 | cons u us ih =>
  have h1 := validB_size (h u List.mem_cons_self)
  have h2 := ih fun v hv => h v (List.mem_cons_of_mem _ hv)
  rw [T.sizeL, List.length_cons]; omega
theorem dv_end {n : Nat} (hn : 3200000 ≤ n) {k n0 : Int} {ts us : List T} (hv : validB (.mk k n0 ts) = true) (hr : Rx (.mk k n0 ts) → Rx (.mk k n0 us)) (hz : (T.mk k n0 us).size ≤ 200000) :
   ((FF n 38 [.agg [.int .i64 k, .int .i64 n0, .fr (.ts us)]] []).bind fun x0 =>
    rBool x0.1 fun x1 x2 => nilV x2 (nilO x0.2 (cond (!x1) (some ([.agg [.int .i64 0, .int .i64 0, .fr (.ts [])], .one (.bool false)], []))
    ((FF n 80 [.agg [.int .i64 k, .int .i64 n0, .fr (.ts ts)]] []).bind fun x3 =>
    rInt .i64 x3.1 fun x4 x5 => nilV x5 (nilO x3.2 (cond (decide (x4 = 0)) (some ([.agg [.int .i64 k, .int .i64 n0, .fr (.ts us)], .one (.bool true)], []))
    ((FF n 81 [.agg [.int .i64 k, .int .i64 n0, .fr (.ts us)]] []).bind fun x6 =>
    rTerm x6.1 fun x7 x8 => rBool x8 fun x9 x10 => nilV x10 (nilO x6.2 (some ([.agg [.int .i64 x7.k, .int .i64 x7.n, .fr (.ts x7.kids)], .one (.bool x9)], [])))))))))) = dvA (finI k n0 ts us) := by
 have h1 := f_TermValid (n := n) (t := .mk k n0 us) (by omega)
 have h2 := f_redex (n := n) (by omega) hv
 simp only [tm, mk_k, mk_n, mk_kids] at h1 h2
 rw [h1]
 simp only [evt]
 unfold finI
 cases hvu : validB (.mk k n0 us) with
 | false => rw [if_neg (by simp)]; rfl
 | true =>
  rw [if_pos rfl]
  simp only [Bool.not_true, cond_false]
  rw [h2]
  simp only [evt]
  by_cases hx : Rx (.mk k n0 ts)
  ·have h3 := f_contract (n := n) (by omega) hvu (hr hx)
   simp only [tm, mk_k, mk_n, mk_kids] at h3
   rw [decide_eq_false ((rx_iff _).2 hx), cond_false, h3, if_pos hx]
   simp only [evt]
   unfold okT
   split
   ·rename_i hc; rw [hc]; rfl
   ·rename_i hc; rw [show validB (contractT (.mk k n0 us)) = false by simpa using hc]; rfl
  ·rw [decide_eq_true (show redexT (.mk k n0 ts) = 0 from Decidable.byContradiction fun h => hx ((rx_iff _).1 h)), cond_true, if_neg hx]
   rfl
theorem dv_loop (n : Nat) (hn : 3200000 ≤ n) (k n0 : Int) (ts : List T) (hv : validB (.mk k n0 ts) = true) (z1 z2 : Int) (l0 : List T) (h : ∀ u ∈ ts, FF n 51 [tm u] [] = dvA (dvI u)) :
   ∀ g m (i : Nat) (acc : List T), g < m → i + g = ts.length → acc.length = i → (∀ u ∈ acc, validB u = true) → (∀ us, dvIL (ts.drop i) = some us → dvIL ts = some (acc ++ us)) →
   L_impl_develop_0_foo n m ts ts.length i k n0 ts z1 z2 l0 k n0 acc = dvA ((dvIL (ts.drop i)).bind fun us => finI k n0 ts (acc ++ us))
 | g, 0, i, acc, hg, _, _, _, _ => by omega
 | 0, m + 1, i, acc, _, hi, ha, hav, hall => by
  have hsz := validB_size hv
  have hlt := T.sizeL_len ts
  simp only [T.size] at hsz
  have hz := sizeL_valid hav
  have hl8 : acc.length * 400 ≤ 400 * 400 := Nat.mul_le_mul_right 400 (by omega)
  have hd : dvIL (ts.drop i) = some [] := by rw [List.drop_of_length_le (by omega)]; rfl
  have hdev : acc = devL ts := by
   have := (dvIL_dev ts _ (hall [] hd)).1
   rwa [List.append_nil] at this
  rw [L_impl_develop_0_foo_eq, decide_eq_false (show ¬ (i : Int) < ts.length by omega), cond_false, hd]
  have e := dv_end (n := n) hn hv (us := acc) (fun hr => by rw [hdev]; exact rx_dev hr) (by simp only [T.size]; omega)
  simp only [Option.bind_some, List.append_nil]
  exact e
 | g + 1, m + 1, i, acc, hg, hi, ha, hav, hall => by
  have hlt : i < ts.length := by omega
  have hsz := validB_size hv
  have hll := T.sizeL_len ts
  simp only [T.size] at hsz
  have w : IntKind.i64.wrap ((i : Int) + 1) = ((i + 1 : Nat) : Int) := wrap64 (by omega)
  have hd := List.drop_eq_getElem_cons hlt
  have hu := h _ (List.getElem_mem hlt)
  rw [L_impl_develop_0_foo_eq, decide_eq_true (show (i : Int) < ts.length by omega), cond_true, decide_eq_true (show (0 : Int) ≤ i by omega), cond_true, Int.toNat_natCast, List.getElem?_eq_getElem hlt, w, hd]
  simp only [tm] at hu
  simp only [Option.bind_some, hu, dvA, tm]
  rw [dvIL]
  cases hx : dvI ts[i] with
  | none => simp only [evt, Option.isSome_none, Option.bind_none, Option.getD_none]; rfl
  | some u =>
   have nx := dv_loop n hn k n0 ts hv z1 z2 l0 h g m (i + 1) (acc ++ [u]) (by omega) (by omega) (by simp [ha]) (fun v hv' => by
    rcases List.mem_append.1 hv' with h' | h'
    ·exact hav v h'
    ·rw [List.mem_singleton.1 h']; exact (dvI_dev _ _ hx).2) (fun us hus => by
    have := hall (u :: us) (by rw [hd, dvIL, hx, hus]; rfl)
    rwa [List.append_assoc, List.singleton_append])
   simp only [evt, Option.isSome_some, Option.getD_some, Bool.not_true, cond_false]
   rw [roomB_ok (by simp; omega), cond_true]
   refine nx.trans ?_
   cases hy : dvIL (ts.drop (i + 1)) with
   | none => rfl
   | some us => simp only [Option.bind_some, List.append_assoc, List.singleton_append]; rfl
theorem f_develop (t : T) : ∀ {n : Nat}, t.size + 3200000 ≤ n → validB t = true → FF n 51 [tm t] [] = dvA (dvI t) := by
 induction t using T.ind with | h t ih =>
 intro n hn hv
 obtain ⟨n, rfl⟩ := pos_succ (show 0 < n by omega)
 have hsz := T.size_eq t
 have hll := T.sizeL_len t.kids
 have hvz := validB_size hv
 cases t with
 | mk k n0 ts =>
  simp only [mk_kids] at hsz hll ih
  rw [E_impl_develop]
  have := dv_loop n (by omega) k n0 ts hv 0 0 [] (fun u hu => by
   have := T.sizeL_mem hu
   exact ih u hu (by omega) (validB_kid hv hu)) ts.length n 0 [] (by omega) (by omega) rfl (by simp) (fun us h => by simpa using h)
  rw [List.drop_zero] at this
  simp only [mk_k, mk_n, mk_kids, tm]
  refine this.trans ?_
  rw [dvI]; rfl
theorem dvS_loop (n : Nat) (hn : 3200000 ≤ n) (k n0 : Int) (ts : List T) (hv : validB (.mk k n0 ts) = true) (hok : validB (.mk k n0 (devL ts)) = true) (hok2 : validB (devT (.mk k n0 ts)) = true) (z1 z2 : Int) (l0 : List T) (h : ∀ u ∈ ts, FF n 52 [tm u] [] = some ([tm (devT u), bl true], [])) :
   ∀ g m (i : Nat) (acc : List T), g < m → i + g = ts.length → acc.length = i → devL ts = acc ++ devL (ts.drop i) →
   L_spec_l4Develop_0_foo n m (!decide (redexT (.mk k n0 ts) = 0)) i k n0 ts z1 z2 l0 k n0 acc = some ([tm (devT (.mk k n0 ts)), bl true], [])
 | g, 0, i, acc, hg, _, _, _ => by omega
 | 0, m + 1, i, acc, _, hi, ha, hacc => by
  have hacc : devL ts = acc := by rw [hacc, List.drop_of_length_le (by omega), devL, List.append_nil]
  subst hacc
  have z1' := validB_size hok
  have z2' := validB_size hok2
  have h1 := f_TermValidS (n := n) (t := .mk k n0 (devL ts)) (by omega) (by omega)
  have h2 := f_TermValidS (n := n) (t := devT (.mk k n0 ts)) (by omega) (by omega)
  rw [hok] at h1
  rw [hok2] at h2
  rw [L_spec_l4Develop_0_foo_eq, decide_eq_false (show ¬ (i : Int) < ts.length by omega), cond_false]
  by_cases hx : Rx (.mk k n0 ts)
  ·have hr := rx_dev hx
   have h3 := f_l3Contract (n := n - 1) (by omega) hok hr
   have h4 := f_l3Redex (n := n - 1) (by omega) hok
   obtain ⟨n', e⟩ : ∃ n', n = n' + 1 := ⟨n - 1, by omega⟩
   have hw : FF n 83 [.agg [.int .i64 k, .int .i64 n0, .fr (.ts (devL ts))]] [] = some ([tm (contractT (.mk k n0 (devL ts)))], []) := by
    subst e
    rw [show n' + 1 - 1 = n' from rfl] at h3 h4
    simp only [tm, mk_k, mk_n, mk_kids] at h3 h4
    rw [E_spec_l4Whole, h4]
    simp only [evt]
    rw [decide_eq_false ((rx_iff _).2 hr), cond_false, h3]
    simp only [evt]
   have hd : devT (.mk k n0 ts) = contractT (.mk k n0 (devL ts)) := by rw [devT, if_pos hx]
   rw [decide_eq_false ((rx_iff _).2 hx), Bool.not_false, cond_true, hw]
   simp only [evt]
   rw [← hd, h2]
   simp only [evt]
  ·have hd : devT (.mk k n0 ts) = .mk k n0 (devL ts) := by rw [devT, if_neg hx]
   rw [decide_eq_true (show redexT (.mk k n0 ts) = 0 from Decidable.byContradiction fun h => hx ((rx_iff _).1 h)), Bool.not_true, cond_false]
   simp only [tm, mk_k, mk_n, mk_kids] at h1
   rw [h1, hd]
   simp only [evt]
   rfl
 | g + 1, m + 1, i, acc, hg, hi, ha, hacc => by
  have hlt : i < ts.length := by omega
  have hsz := validB_size hv
  have hll := T.sizeL_len ts
  simp only [T.size] at hsz
  have w : IntKind.i64.wrap ((i : Int) + 1) = ((i + 1 : Nat) : Int) := wrap64 (by omega)
  have hd := List.drop_eq_getElem_cons hlt
  have hu := h _ (List.getElem_mem hlt)
  have nx := dvS_loop n hn k n0 ts hv hok hok2 z1 z2 l0 h g m (i + 1) (acc ++ [devT ts[i]]) (by omega) (by omega) (by simp [ha]) (by rw [hacc, hd, devL]; simp)
  rw [L_spec_l4Develop_0_foo_eq, decide_eq_true (show (i : Int) < ts.length by omega), cond_true, decide_eq_true (show (0 : Int) ≤ i by omega), cond_true, Int.toNat_natCast, List.getElem?_eq_getElem hlt, w]
  simp only [tm] at hu
  simp only [Option.bind_some, hu, tm]
  simp only [evt]
  rw [roomB_ok (by simp; omega), cond_true]
  exact nx
theorem f_l4Develop (t : T) : ∀ {n : Nat}, t.size + 3200000 ≤ n → validB t = true → okD t = true → FF n 52 [tm t] [] = some ([tm (devT t), bl true], []) := by
 induction t using T.ind with | h t ih =>
 intro n hn hv ho
 obtain ⟨n, rfl⟩ := pos_succ (show 0 < n by omega)
 have hsz := T.size_eq t
 have hvz := validB_size hv
 have hr := f_l3Redex (n := n) (by omega) hv
 cases t with
 | mk k n0 ts =>
  have hll := T.sizeL_len ts
  simp only [mk_kids] at hsz ih
  simp only [tm, mk_k, mk_n, mk_kids] at hr
  simp only [okD, Bool.and_eq_true] at ho
  have okl : ∀ {ts : List T}, okDL ts = true → ∀ u ∈ ts, okD u = true := by
   intro ts
   induction ts with
   | nil => intro _ u hu; cases hu
   | cons t ts ih =>
    intro h u hu
    simp only [okDL, Bool.and_eq_true] at h
    rcases List.mem_cons.1 hu with rfl | hu
    ·exact h.1
    ·exact ih h.2 u hu
  have := dvS_loop n (by omega) k n0 ts hv ho.2.1 ho.2.2 0 0 [] (fun u hu => by
   have := T.sizeL_mem hu
   exact ih u hu (by omega) (validB_kid hv hu) (okl ho.1 u hu)) ts.length n 0 [] (by omega) (by omega) rfl (by simp)
  simp only [mk_k, mk_n, mk_kids, tm]
  rw [E_spec_l4Develop, hr]
  simp only [evt]
  exact this
def dvR (t : T) : Option T := if validB t = true then dvI t else none
theorem f_DevelopTerm {n : Nat} {t : T} (hn : t.size + 3200010 ≤ n) : FF n 17 [tm t] [] = dvA (dvR t) := by
 obtain ⟨n, rfl⟩ := pos_succ (show 0 < n by omega)
 have hv := f_TermValid (n := n) (t := t) (by omega)
 rw [E_impl_DevelopTerm, hv]
 simp only [evt]
 unfold dvR
 cases h : validB t with
 | false => rfl
 | true =>
  have hd := f_develop t (n := n) (by omega) h
  simp only [Bool.not_true, cond_false, if_true]
  rw [hd]
  unfold dvA
  simp only [evt]
theorem f_DevelopTermS {n : Nat} {t : T} (hn : t.size + 3200010 ≤ n) (hz : t.size ≤ 1000000) (ho : validB t = true → okD t = true) : FF n 18 [tm t] [] = dvA (dvR t) := by
 obtain ⟨n, rfl⟩ := pos_succ (show 0 < n by omega)
 have hv := f_TermValidS (n := n) (t := t) (by omega) (by omega)
 rw [E_spec_DevelopTerm, hv]
 simp only [evt]
 unfold dvR
 cases h : validB t with
 | false => rfl
 | true =>
  have hd := f_l4Develop t (n := n) (by omega) h (ho h)
  simp only [Bool.not_true, cond_false, if_true]
  rw [hd, dvI_ok t (ho h)]
  unfold dvA
  simp only [evt]
  rfl
end Go.Proofs.Ytgchmppmecnniaa
end
section
namespace Go.Proofs.Ytgchmppmecnniaa
open Go Go.Ab Go.Dk
def paB (s : ByteArray) (m : Tm) : Bool := decide (s.size ≤ 300) && (decide ((of m).size ≤ 500) && (match pa s 30 0 with
 | some x => T.beq x.1 (of m) && decide (x.2 = s.size)
 | none => false))
theorem paB_ok {s : ByteArray} {m : Tm} (h : paB s m = true) : s.size ≤ 300 ∧ (of m).size ≤ 500 ∧ pa s 30 0 = some (of m, s.size) := by
 simp only [paB, Bool.and_eq_true, decide_eq_true_eq] at h
 obtain ⟨h1, h2, h3⟩ := h
 refine ⟨h1, h2, ?_⟩
 split at h3
 ·rename_i x e
  simp only [Bool.and_eq_true, decide_eq_true_eq] at h3
  rw [e, ← (T.beq_iff _ _).1 h3.1, ← h3.2]
 ·cases h3
def base3 : List Tm := [
 .app (.lam .nat (.lam .nat (.elim (.lam .nat .nat) (.var 1) (.lam .nat (.lam .nat (.succ (.var 0)))) (.var 0)))) (.succ (.succ .zero)),
 .app (.app (.lam .nat (.lam .nat (.elim (.lam .nat .nat) (.var 1) (.lam .nat (.lam .nat (.succ (.var 0)))) (.var 0)))) (.succ (.succ .zero))) (.succ .zero),
 .app (.lam .nat (.succ (.var 0))) (.app (.lam .nat (.succ (.succ (.var 0)))) .zero),
 .fst (.pair (.sig .nat .nat) (.app (.lam .nat (.var 0)) .zero) (.succ .zero)),
 .snd (.pair (.sig .nat .nat) .zero (.app (.lam .nat (.succ (.var 0))) .zero)),
 .move (.lam .nat (.id .nat .zero (.var 0))) (.refl .zero) (.refl .zero),
 .app (.lam (.sort 0) (.lam (.var 0) (.var 0))) .nat,
 .app (.lam .nat (.app (.var 0) (.var 0))) (.lam .nat (.var 0)),
 .app (.lam .nat (.app (.var 0) (.var 0))) (.lam .nat (.app (.var 0) (.var 0))),
 .elim (.lam .nat (.sort 0)) .nat (.lam .nat (.lam (.sort 0) (.pi .nat (.var 1)))) (.succ (.succ (.succ .zero))),
 .lam .nat (.app (.lam .nat (.app (.var 0) (.var 1))) (.var 0)),
 .app (.app (.lam (.pi .nat .nat) (.lam .nat (.app (.var 1) (.app (.var 1) (.var 0))))) (.lam .nat (.succ (.var 0)))) (.var 0),
 .elim (.lam .nat .nat) .zero (.lam .nat (.lam .nat (.var 1))) (.app (.lam .nat (.succ (.var 0))) (.var 2))]
def mutB : Tm → Bool
 | .pi a b => okD (of (.app a b))
 | .sig a b => okD (of (.app a b))
 | .lam a b => okD (of (.app a b))
 | _ => true
theorem base3_ok : (base3.all fun m => okD (of m) && (okD (of (.succ m)) && mutB m)) = true := by decide +kernel
def Dd (v : T) : Prop := ∃ m : Tm, v = of m ∧ (m ∈ base3 ∨ (Tm.ht m ≤ 4 ∧ Tm.lw m))
theorem okD_leaf {m : Tm} (h : Tm.ht m ≤ 1) (v : validB (of m) = true) : okD (of m) = true := by
 have leaf : ∀ {m : Tm} {k n : Int}, of m = .mk k n [] → ¬ Rx (.mk k n []) → validB (of m) = true → okD (of m) = true := fun e hr v => by
  refine okD_node e rfl ?_ ?_
  ·rw [devL, ← e]; exact v
  ·rw [e, dev_node hr, devL, ← e]; exact v
 rcases Tm.ht_one h with ⟨n, rfl⟩ | ⟨n, rfl⟩ | rfl | rfl
 ·exact leaf (k := 1) rfl (not_rx (by omega)) v
 ·exact leaf (k := 2) rfl (not_rx (by omega)) v
 ·exact leaf (k := 6) rfl (not_rx (by omega)) v
 ·exact leaf (k := 7) rfl (not_rx (by omega)) v
theorem dd_ok {v y : T} (h : Dd v) (hm : MutT v y) (hv : validB y = true) : okD y = true ∧ ∃ m, y = of m := by
 obtain ⟨m, rfl, hd⟩ := h
 obtain ⟨m', rfl, mt⟩ := mut_of hm hv
 refine ⟨?_, m', rfl⟩
 rcases hd with hd | ⟨h4, lw⟩
 ·have k := List.all_eq_true.1 base3_ok m hd
  simp only [Bool.and_eq_true] at k
  rcases mt with rfl | rfl | h1 | ⟨a, b, e, rfl⟩
  ·exact k.1
  ·exact k.2.1
  ·exact okD_leaf h1 hv
  ·rcases e with rfl | rfl | rfl <;> exact k.2.2
 ·have c := Tm.lw_cl (d := 4) lw (by omega)
  have s := Tm.lw_srt lw
  rcases mt with rfl | rfl | h1 | ⟨a, b, e, rfl⟩
  ·exact Tm.okD_of (d := 4) h4 (by omega) c s
  ·exact Tm.okD_succ (d := 4) h4 (by omega) c s
  ·exact okD_leaf h1 hv
  ·have : Tm.ht (.app a b) ≤ 4 ∧ Tm.lw (.app a b) := by rcases e with rfl | rfl | rfl <;> exact ⟨h4, lw⟩
   exact Tm.okD_of (d := 4) this.1 (by omega) (Tm.lw_cl this.2 (by omega)) (Tm.lw_srt this.2)
theorem tx3 {b : List ByteArray} (h : (b.all fun s => base3.any fun m => paB s m) = true) : ∀ s ∈ b, ∃ m ∈ base3, paB s m = true := fun s hs => by
 simpa using List.all_eq_true.1 h s hs
theorem x_l3Draw {n : Nat} (hn : 10000 ≤ n) {l : List UInt8} {p m : Int} (hr : RdOk l p m) (hm : m ≤ 300000000000) : Tot (FF n 35 [.one (.ptr 0 0)] [rdr l p]) (fun r => ∃ (t : T) (p : Int), r = ([tm t], [rdr l p]) ∧ t.size ≤ 500 ∧ Dd t ∧ RdOk l p (m + 300)) := by
 refine tot_step (C := 9999) (by omega) fun n hn e => ?_
 rw [E_spec_l3Draw]
 refine tot_call (t_l3Plus (by omega)) ?_
 rintro _ rfl
 simp only [evt]
 refine tot_cond (fun _ => ?_) (fun hq => by exfalso; revert hq; decide +kernel)
 refine tot_cond (fun _ => ?_) (fun hq => by exfalso; revert hq; decide +kernel)
 refine tot_call (t_l3Plus (by omega)) ?_
 rintro _ rfl
 simp only [evt]
 refine tot_cond (fun _ => ?_) (fun hq => by exfalso; revert hq; decide +kernel)
 refine tot_cond (fun _ => ?_) (fun hq => by exfalso; revert hq; decide +kernel)
 refine tot_call (t_of (by omega) hr (by omega) (by simp) (by simp)) ?_
 rintro _ ⟨s, p1, rfl, hs, hr1⟩
 obtain ⟨b, hb, hpa⟩ := tx3 (by decide +kernel) s hs
 clear hs
 obtain ⟨q1, q2, q3⟩ := paB_ok hpa
 have hany : ∀ {p m : Int}, RdOk l p m → m ≤ 400000000000 → Tot (FF n 72 [.one (.ptr 0 0)] [rdr l p]) (fun r => ∃ (t : T) (p : Int), r = ([tm t], [rdr l p]) ∧ t.size ≤ 500 ∧ Dd t ∧ RdOk l p (m + 256)) := fun hr hm => by
  refine tot_mono (x_l1Any (by omega) hr (by omega)) ?_
  rintro _ ⟨t, p, rfl, hv, ⟨m, rfl, h4, lw⟩, hr⟩
  exact ⟨_, p, rfl, by have := validB_size hv; omega, ⟨m, rfl, .inr ⟨h4, lw⟩⟩, hr⟩
 simp only [evt]
 refine tot_call (t_ParseX (s := s) (t := of b) (by omega) (by omega) q2 q3) ?_
 rintro _ ⟨t, c, rfl, hc⟩
 simp only [evt]
 refine tot_cond (fun hq => ?_) (fun hq => ?_)
 ·refine tot_call (t_pick (by omega) hr1 (by omega) (by omega)) ?_
  rintro _ ⟨v, p2, rfl, hv0, hv1, hr2⟩
  simp only [evt]
  refine tot_cond (fun _ => tot_some ?_) (fun _ => ?_)
  ·obtain rfl := hc hq
   exact ⟨_, p2, rfl, q2, ⟨b, rfl, .inl hb⟩, hr2.mono (by omega)⟩
  ·refine tot_call (hany hr2 (by omega)) ?_
   rintro _ ⟨u, p3, rfl, h1, h2, hr3⟩
   simp only [evt]
   exact tot_some ⟨u, p3, rfl, h1, h2, hr3.mono (by omega)⟩
 ·refine tot_call (hany hr1 (by omega)) ?_
  rintro _ ⟨u, p3, rfl, h1, h2, hr3⟩
  simp only [evt]
  exact tot_some ⟨u, p3, rfl, h1, h2, hr3.mono (by omega)⟩
abbrev IsDev (r : List V1 × List AObj) : Prop := ∃ t : T, r = ([tm t], []) ∧ t.size ≤ 1000 ∧ (validB t = true → okD t = true ∧ ∃ m, t = of m)
theorem x_DrawDevelopTerm {n : Nat} (hn : 20002 ≤ n) (l : List UInt8) : Tot (FF n 16 [.one (.fr (.bs l))] []) IsDev := by
 have h0 : ∀ {n : Nat}, 20001 ≤ n → Tot (FF n 50 [.one (.fr (.bs l))] []) IsDev := fun {n} hn => by
  refine tot_step (C := 20000) (by omega) fun n hn e => ?_
  rw [E_spec_DrawRedexOf]
  refine tot_call (t_open (by omega) l) ?_
  rintro _ ⟨l', rfl, hr⟩
  simp only [evt]
  refine tot_call (x_l3Draw (by omega) hr (by omega)) ?_
  rintro _ ⟨t, p, rfl, hz, hd, hr⟩
  simp only [evt]
  refine tot_call (x_l1Mutate (t := t) (by omega) (by omega) hr (by omega)) ?_
  rintro _ ⟨y, p, rfl, hy, hr⟩
  simp only [evt]
  exact tot_some ⟨y, rfl, by have := hy.size; omega, fun hv => dd_ok hd hy hv⟩
 refine tot_step (C := 20001) (by omega) fun n hn e => ?_
 rw [E_spec_DrawDevelopTerm]
 refine tot_call (h0 (by omega)) ?_
 rintro _ ⟨t, rfl, h1, h2⟩
 simp only [evt]
 exact tot_some ⟨t, rfl, h1, h2⟩
end Go.Proofs.Ytgchmppmecnniaa
end
