/- The abstract run is sound: calls. No program in sight. -/
import Derived.Test.YthjbllfcelkajaaOpE
set_option linter.unusedVariables false
set_option linter.unusedSimpArgs false
namespace Go.Ab
open Go Go.Dk

section
variable {P : Program} {w0 w w' : World} {M Z0 : Zone} {b : Nat} {G : List GO} {s : AS} {tv : List Value} {r : List V1 × List AObj} {Z : Zone}
theorem sealVs_sound : ∀ {l : List V1} {s : AS} {xs : List Value} {k : List V1 → List AObj → OR}, InvG w0 M Z0 b G s tv w → All2 (RV1 G (zn w0 Z0 s G) w) l xs → sealVs s.heap l k = some r →
    ∃ l' h', k l' h' = some r ∧ Sealed w0 M Z0 b G s tv w h' ∧ All2 (RV1 G (zn w0 Z0 ⟨s.tmps, h'⟩ G) w) l' xs
  | [], s, xs, k, hI, ha, h => by
    obtain rfl := ha.nil_inv
    exact ⟨_, _, h, Sealed.refl hI, All2.nil⟩
  | v :: l, s, xs, k, hI, ha, h => by
    obtain ⟨X, xs', rfl, h1, h2⟩ := ha.cons_inv
    unfold sealVs at h
    split at h
    · exact absurd ‹_ :: _ = []› (by simp)
    · rename_i k' l0 e
      simp only [List.cons.injEq] at e
      obtain ⟨rfl, rfl⟩ := e
      obtain ⟨l', h', hk, hs, hl⟩ := sealVs_sound hI h2 h
      exact ⟨_, _, hk, hs, All2.cons ⟨trivial, fun h => absurd rfl h⟩ hl⟩
    · rename_i x l0 hne e
      simp only [List.cons.injEq] at e
      obtain ⟨rfl, rfl⟩ := e
      have hone : OneR G (zn w0 Z0 s G) w x X := ⟨h1.1, h1.2 fun e => hne e⟩
      replace h := sealS_sound hI hone h; obtain ⟨v', h1', h, hs, hv⟩ := h
      obtain ⟨l', h', hk, hs', hl⟩ := sealVs_sound hs.inv (h2.mono fun _ _ _ q => q.stable (keeps_le hs.le)) h
      exact ⟨_, _, hk, hs.trans hs', All2.cons ⟨hv.1.stable (keeps_le hs'.le), fun _ => hv.2⟩ hl⟩
    · rename_i c l0 e
      simp only [List.cons.injEq] at e
      obtain ⟨rfl, rfl⟩ := e
      obtain ⟨ys, hX, hc⟩ := h1
      replace h := sealL_sound hI hc h; obtain ⟨c', h1', h, hs, hv⟩ := h
      obtain ⟨l', h', hk, hs', hl⟩ := sealVs_sound hs.inv (h2.mono fun _ _ _ q => q.stable (keeps_le hs.le)) h
      exact ⟨_, _, hk, hs.trans hs', All2.cons ⟨ys, hX, hv.mono fun _ _ _ q => ⟨q.1.stable (keeps_le hs'.le), q.2⟩⟩ hl⟩

/-! What comes back, taken apart. -/
def LikeS (v y : SV) : Prop := ∀ (G G' : List GO) (Z : Zone) (w : World) (X : Value), OneR G Z w v X → OneR G' Z w y X
theorem LikeS.refl_int {k : IntKind} {n : Int} : LikeS (.int k n) (.int k n) := fun _ _ _ _ _ h => h
theorem intC_some {a : IntKind} {l : List SV} {k : Int → List SV → OR} (h : intC a l k = some r) : ∃ n l', l = .int a n :: l' ∧ k n l' = some r := by
  unfold intC at h; split at h
  · replace h := cond_left h; obtain ⟨ha, h⟩ := h; obtain rfl := ikEq_eq ha; exact ⟨_, _, rfl, h⟩
  · cases h
theorem boolC_some {l : List SV} {k : Bool → List SV → OR} (h : boolC l k = some r) : ∃ n l', l = .bool n :: l' ∧ k n l' = some r := by
  unfold boolC at h; split at h
  · exact ⟨_, _, rfl, h⟩
  · cases h
theorem strC_some {l : List SV} {k : ByteArray → List SV → OR} (h : strC l k = some r) : ∃ n l', l = .str n :: l' ∧ k n l' = some r := by
  unfold strC at h; split at h
  · exact ⟨_, _, rfl, h⟩
  · cases h
theorem slC_some {e : SK} {l : List SV} {k : SD → List SV → OR} (h : slC e l k = some r) : ∃ d l', l = .fr d :: l' ∧ d.kind = e ∧ k d l' = some r := by
  cases e <;> simp only [slC] at h
  · unfold tsC at h; split at h
    · exact ⟨_, _, rfl, rfl, h⟩
    · cases h
  · unfold isC at h; split at h
    · exact ⟨_, _, rfl, rfl, h⟩
    · cases h
  · unfold issC at h; split at h
    · exact ⟨_, _, rfl, rfl, h⟩
    · cases h
  · unfold ssC at h; split at h
    · exact ⟨_, _, rfl, rfl, h⟩
    · cases h
  · unfold bsC at h; split at h
    · exact ⟨_, _, rfl, rfl, h⟩
    · cases h
theorem anyC_some {l : List SV} {k : List SV → OR} (h : anyC l k = some r) : ∃ v l', l = v :: l' ∧ k l' = some r := by
  unfold anyC at h; split at h
  · exact ⟨_, _, rfl, h⟩
  · cases h
theorem likeC_sound {x : SV} {l : List SV} {k : SV → List SV → OR} (h : likeC x l k = some r) : ∃ v y l', l = v :: l' ∧ k y l' = some r ∧ LikeS v y := by
  unfold likeC at h
  split at h
  · obtain ⟨n, l', rfl, h'⟩ := intC_some h; exact ⟨_, _, _, rfl, h', fun _ _ _ _ _ h => h⟩
  · obtain ⟨n, l', rfl, h'⟩ := boolC_some h; exact ⟨_, _, _, rfl, h', fun _ _ _ _ _ h => h⟩
  · obtain ⟨n, l', rfl, h'⟩ := strC_some h; exact ⟨_, _, _, rfl, h', fun _ _ _ _ _ h => h⟩
  · obtain ⟨n, l', rfl, _, h'⟩ := slC_some h; exact ⟨_, _, _, rfl, h', fun _ _ _ _ _ h => h⟩
  · obtain ⟨n, l', rfl, _, h'⟩ := slC_some h; exact ⟨_, _, _, rfl, h', fun _ _ _ _ _ h => h⟩
  · obtain ⟨v, l', rfl, h'⟩ := anyC_some h; exact ⟨_, _, _, rfl, h', fun _ _ _ _ _ h => ⟨trivial, h.2⟩⟩
theorem likeL_sound : ∀ {x l : List SV} {k : List SV → OR}, likeL x l k = some r → ∃ y, k y = some r ∧ All2 LikeS l y
  | [], l, k, h => by
    unfold likeL nilC at h
    split at h
    · exact ⟨_, h, All2.nil⟩
    · cases h
  | x :: xs, l, k, h => by
    unfold likeL at h
    obtain ⟨v, y, l', rfl, h1, hv⟩ := likeC_sound h
    obtain ⟨ys, h2, hl⟩ := likeL_sound h1
    exact ⟨_, h2, All2.cons hv hl⟩
theorem like_one {l y : List SV} {vs : List Value} {G' : List GO} (h : All2 LikeS l y) (k : All2 (OneR G Z w) l vs) : All2 (OneR G' Z w) y vs := by
  refine ⟨h.1.symm.trans k.1, fun i a X ha hX => ?_⟩
  obtain ⟨v, hv, hl⟩ := h.get' ha
  exact hl _ _ _ _ _ (k.2 i v X hv hX)
/-- One object that was handed in and what comes back of it; and what the caller keeps. -/
def Back (o o' : AObj) : Prop := o' = .dead ∨ ∃ l y, o = .cells l ∧ o' = .cells y ∧ All2 LikeS l y
theorem backO_sound : ∀ {x o : List AObj} {k : List AObj → List AObj → OR}, backO x o k = some r → ∃ olds os rest, o = olds ++ rest ∧ k os rest = some r ∧ olds.length = x.length ∧ All2 Back olds os
  | [], o, k, h => ⟨[], [], o, rfl, h, rfl, All2.nil⟩
  | x :: xs, o, k, h => by
    unfold backO at h
    split at h
    · exact absurd ‹_ :: _ = []› (by simp)
    · rename_i c xs0 e
      simp only [List.cons.injEq] at e
      obtain ⟨rfl, rfl⟩ := e
      unfold objC at h
      split at h
      · obtain ⟨y, h1, hy⟩ := likeL_sound h
        obtain ⟨olds, os, rest, rfl, h2, hl, hb⟩ := backO_sound h1
        exact ⟨_ :: olds, _, rest, rfl, h2, by simp [hl], All2.cons (.inr ⟨_, _, rfl, rfl, hy⟩) hb⟩
      · cases h
    · rename_i o0 xs0 hne e
      simp only [List.cons.injEq] at e
      obtain ⟨rfl, rfl⟩ := e
      unfold dropC at h
      split at h
      · obtain ⟨olds, os, rest, rfl, h1, hl, hb⟩ := backO_sound h
        exact ⟨_ :: olds, _, rest, rfl, h1, by simp [hl], All2.cons (.inl rfl) hb⟩
      · cases h
theorem arrC_some {e : TypeId × SK} {o : List AObj} {k : SD → List AObj → OR} (h : arrC e o k = some r) : ∃ d o', o = .arr e.1 d 0 false :: o' ∧ d.kind = e.2 ∧ k d o' = some r := by
  have key : ∀ {α : Type} {f : α → SD} {o : List AObj} {k : SD → List AObj → OR} {e' : TypeId} {x : α} {o' : List AObj}, o = .arr e' (f x) 0 false :: o' → cond (Nat.beq e.1 e') (k (f x) o') none = some r → (f x).kind = e.2 → ∃ d o', o = .arr e.1 d 0 false :: o' ∧ d.kind = e.2 ∧ k d o' = some r := by
    intro α f o k e' x o' ho h hk
    obtain ⟨he, h'⟩ := cond_left h
    simp only [Nat.beq_eq] at he
    subst he
    exact ⟨_, _, ho, hk, h'⟩
  unfold arrC at h
  split at h <;> rename_i he
  · unfold arrTsC at h; split at h
    · exact key (f := SD.ts) rfl h (by rw [he]; rfl)
    · cases h
  · unfold arrIsC at h; split at h
    · exact key (f := SD.is) rfl h (by rw [he]; rfl)
    · cases h
  · unfold arrIssC at h; split at h
    · exact key (f := SD.iss) rfl h (by rw [he]; rfl)
    · cases h
  · unfold arrSsC at h; split at h
    · exact key (f := SD.ss) rfl h (by rw [he]; rfl)
    · cases h
  · unfold arrBsC at h; split at h
    · exact key (f := SD.bs) rfl h (by rw [he]; rfl)
    · cases h
theorem rSl_some {e : SK} {l : List V1} {k : SD → List V1 → OR} (h : rSl e l k = some r) : ∃ d l', l = .one (.fr d) :: l' ∧ k d l' = some r := by
  cases e <;> simp only [rSl] at h
  · unfold rTs at h; split at h
    · exact ⟨_, _, rfl, h⟩
    · cases h
  · unfold rIs at h; split at h
    · exact ⟨_, _, rfl, h⟩
    · cases h
  · unfold rIss at h; split at h
    · exact ⟨_, _, rfl, h⟩
    · cases h
  · unfold rSs at h; split at h
    · exact ⟨_, _, rfl, h⟩
    · cases h
  · unfold rBs at h; split at h
    · exact ⟨_, _, rfl, h⟩
    · cases h
theorem RO_arr_inv {e : TypeId} {d : SD} {g : GO} (h : RO G Z w (.arr e d 0 false) g) : ∃ val xs, g = .arr 0 val d.kind.size xs := by
  cases g with
  | arr ver val sz xs => obtain ⟨rfl, rfl, _⟩ := h; exact ⟨_, _, rfl⟩
  | _ => exact h.elim
theorem RO_arr_any {e : TypeId} {d : SD} {v : Nat} {z : Bool} {g : GO} {G' : List GO} (h : RO G Z w (.arr e d v z) g) : RO G' Z w (.arr e d v z) g := by cases g <;> exact h
theorem own_new {c b' : Nat} {G' : List GO} {g : GO} {e : TypeId} {d : SD} {X : Value} (hx : RS G Z w (.own c 0) X) (hg : RO G Z w (.arr e d 0 false) g) (h1 : G[c]? = some g) (h2 : G'[b']? = some g) : RS G' Z w (.own b' 0) X := by
  obtain ⟨val, xs, rfl⟩ := RO_arr_inv hg
  have := own_val hx h1 rfl
  exact .inr ⟨0, val, _, xs, h2, Nat.le_refl _, fun _ => this⟩
theorem valT_sound {own : Bool} {c b' : Nat} {t : TypeId} {l : List V1} {o : List AObj} {k : V1 → List AObj → List V1 → List AObj → OR} (h : valT P own c b' t l o k = some r) :
    ∃ v n l' o' x0 o0, k v n l' o' = some r ∧ l = x0 :: l' ∧ o = o0 ++ o' ∧ n.length = o0.length ∧ ∀ {Gc G'' : List GO} {Z : Zone} {w : World} {X : Value} {gs : List GO}, RV1 Gc Z w x0 X → All2 (RO Gc Z w) o0 gs →
      (∀ (i : Nat) g, gs[i]? = some g → Gc[c + i]? = some g ∧ G''[b' + i]? = some g) → RV1 G'' Z w v X ∧ All2 (RO G'' Z w) n gs ∧ resL n gs = resL o0 gs := by
  unfold valT at h
  split at h
  · unfold rInt at h; split at h
    · replace h := cond_left h; obtain ⟨ha, h⟩ := h; obtain rfl := ikEq_eq ha
      exact ⟨_, _, _, _, _, [], h, rfl, rfl, rfl, fun hx ho _ => by obtain rfl := ho.nil_inv; exact ⟨hx, All2.nil, rfl⟩⟩
    · cases h
  · unfold rBool at h; split at h
    · exact ⟨_, _, _, _, _, [], h, rfl, rfl, rfl, fun hx ho _ => by obtain rfl := ho.nil_inv; exact ⟨hx, All2.nil, rfl⟩⟩
    · cases h
  · unfold rStr at h; split at h
    · exact ⟨_, _, _, _, _, [], h, rfl, rfl, rfl, fun hx ho _ => by obtain rfl := ho.nil_inv; exact ⟨hx, All2.nil, rfl⟩⟩
    · cases h
  · split at h
    · rename_i e _
      rcases cond_some h with ⟨_, h⟩ | ⟨_, h⟩
      · unfold rOwn at h; split at h
        · replace h := cond_left h; obtain ⟨hi, h⟩ := h
          simp only [Nat.beq_eq] at hi
          obtain ⟨d, o', rfl, hk, h1⟩ := arrC_some h
          refine ⟨_, _, _, _, _, [_], h1, rfl, rfl, rfl, fun hx ho hg => ?_⟩
          obtain ⟨g, gs', rfl, h1, h2⟩ := ho.cons_inv
          obtain rfl := h2.nil_inv
          obtain ⟨e1, e2⟩ := hg 0 g rfl
          refine ⟨⟨own_new (by rw [← hi]; exact hx.1) h1 e1 e2, fun _ => hx.2 nofun⟩, All2.cons (RO_arr_any h1) All2.nil, rfl⟩
        · cases h
      · obtain ⟨d, l', rfl, h1⟩ := rSl_some h
        exact ⟨_, _, _, _, _, [], h1, rfl, rfl, rfl, fun hx ho _ => by obtain rfl := ho.nil_inv; exact ⟨hx, All2.nil, rfl⟩⟩
    · cases h
  · split at h
    · rcases cond_some h with ⟨_, h⟩ | ⟨_, h⟩
      · unfold rOwnT at h; split at h
        · replace h := cond_left h; obtain ⟨hi, h⟩ := h
          simp only [Nat.beq_eq] at hi
          unfold arrTsC at h; split at h
          · replace h := cond_left h; obtain ⟨he, hk2⟩ := h
            simp only [Nat.beq_eq] at he
            subst he
            refine ⟨_, _, _, _, _, [_], hk2, rfl, rfl, rfl, fun hx ho hg => ?_⟩
            obtain ⟨g, gs', rfl, h1, h2⟩ := ho.cons_inv
            obtain rfl := h2.nil_inv
            obtain ⟨e1, e2⟩ := hg 0 g rfl
            obtain ⟨xs, hX, hc⟩ := hx
            obtain ⟨x1, m1, rfl, c1, hc⟩ := hc.cons_inv
            obtain ⟨x2, m2, rfl, c2, hc⟩ := hc.cons_inv
            obtain ⟨x3, m3, rfl, c3, hc⟩ := hc.cons_inv
            obtain rfl := hc.nil_inv
            exact ⟨⟨_, hX, All2.cons c1 (All2.cons c2 (All2.cons ⟨own_new (by rw [← hi]; exact c3.1) h1 e1 e2, c3.2⟩ All2.nil))⟩, All2.cons (RO_arr_any h1) All2.nil, rfl⟩
          · cases h
        · cases h
      · unfold rTerm at h; split at h
        · refine ⟨_, _, _, _, _, [], h, rfl, rfl, rfl, fun hx ho _ => ?_⟩
          obtain rfl := ho.nil_inv
          obtain ⟨xs, hX, hc⟩ := hx
          obtain ⟨x1, m1, rfl, c1, hc⟩ := hc.cons_inv
          obtain ⟨x2, m2, rfl, c2, hc⟩ := hc.cons_inv
          obtain ⟨x3, m3, rfl, c3, hc⟩ := hc.cons_inv
          obtain rfl := hc.nil_inv
          exact ⟨⟨_, hX, All2.cons ⟨c1.1, c1.2⟩ (All2.cons ⟨c2.1, c2.2⟩ (All2.cons ⟨c3.1, c3.2⟩ All2.nil))⟩, All2.nil, rfl⟩
        · cases h
    · cases h
  · unfold rPtr at h; split at h
    · replace h := cond_left h; obtain ⟨hi, h⟩ := h
      simp only [Nat.beq_eq] at hi
      unfold objC at h; split at h
      · split at h
        · obtain ⟨y, h1, hy⟩ := likeL_sound h
          refine ⟨_, _, _, _, _, [_], h1, rfl, rfl, rfl, fun hx ho hg => ?_⟩
          obtain ⟨g, gs', rfl, h1, h2⟩ := ho.cons_inv
          obtain rfl := h2.nil_inv
          obtain ⟨e1, e2⟩ := hg 0 g rfl
          cases g with
          | cells bb T vs =>
            have hp := ptr_val (by rw [← hi]; exact hx.1) e1
            exact ⟨⟨.inr ⟨bb, T, vs, e2, hp⟩, fun _ => hx.2 nofun⟩, All2.cons (like_one hy h1) All2.nil, rfl⟩
          | _ => exact h1.elim
        · cases h
      · cases h
    · cases h
  · cases h
theorem valsT_sound {own : Bool} : ∀ {tys : List TypeId} {c b' : Nat} {l : List V1} {o : List AObj} {k : List V1 → List AObj → OR}, valsT P own tys c b' l o k = some r →
    ∃ vs ns, k vs ns = some r ∧ ns.length = o.length ∧ ∀ {Gc G'' : List GO} {Z : Zone} {w : World} {xs : List Value} {gs : List GO}, All2 (RV1 Gc Z w) l xs → All2 (RO Gc Z w) o gs →
      (∀ (i : Nat) g, gs[i]? = some g → Gc[c + i]? = some g ∧ G''[b' + i]? = some g) → All2 (RV1 G'' Z w) vs xs ∧ All2 (RO G'' Z w) ns gs ∧ resL ns gs = resL o gs
  | [], c, b', l, o, k, h => by
    unfold valsT nilV at h
    split at h
    · unfold nilO at h
      split at h
      · exact ⟨_, _, h, rfl, fun hx ho _ => ⟨by obtain rfl := hx.nil_inv; exact All2.nil, by obtain rfl := ho.nil_inv; exact All2.nil, rfl⟩⟩
      · cases h
    · cases h
  | t :: tys, c, b', l, o, k, h => by
    unfold valsT at h
    obtain ⟨v, n, l', o', x0, o0, h1, rfl, rfl, hn, hv⟩ := valT_sound h
    obtain ⟨vs, ns, h2, hns, hvs⟩ := valsT_sound h1
    refine ⟨_, _, h2, by simp [hn, hns], fun hx ho hg => ?_⟩
    obtain ⟨X, xs', rfl, hx1, hx2⟩ := hx.cons_inv
    obtain ⟨g1, g2, rfl, ho1, ho2⟩ := ho.append_inv
    obtain ⟨a1, a2, a3⟩ := hv hx1 ho1 fun i g hi => hg i g (by rw [List.getElem?_append_left (lt_of_some hi)]; exact hi)
    obtain ⟨b1, b2, b3⟩ := hvs hx2 ho2 fun i g hi => by
      have := hg (g1.length + i) g (by rw [List.getElem?_append_right (by omega)]; simpa using hi)
      rw [← ho1.1] at this
      rw [Nat.add_assoc, Nat.add_assoc, hn]; exact this
    refine ⟨All2.cons a1 b1, All2.append a2 b2, ?_⟩
    rw [resL_append a2.1, resL_append ho1.1, a3, b3]
end
end Go.Ab
