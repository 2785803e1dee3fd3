/- One operation over a memory of some objects alone. No program in sight. -/
import Derived.Test.YthjbllfcelkajaaNat
import Derived.Test.YthjbllfcelkajaaOpM
set_option linter.unusedVariables false
set_option linter.unusedSimpArgs false
namespace Go.Ab
open Go Go.Dk

section
variable {P : Program} {F : Callee} {D : Dec}
theorem map_congr_ops {α : Type} {ρ ρ' : Operand → α} {a : Array Operand} (h : ∀ x ∈ a, ρ x = ρ' x) : a.toList.map ρ = a.toList.map ρ' :=
  List.map_congr_left fun x hx => h x (by simpa using hx)
theorem evOp_congr {ρ ρ' : Operand → AV} {o : Oper} (h : ∀ x ∈ o.op.operands, ρ x = ρ' x) (hp : List AObj) (sl : Nat) (k : AV → List AObj → OR) :
    evOp P F D o ρ hp sl k = evOp P F D o ρ' hp sl k := by
  obtain ⟨dst, op, ty, pos, aft, gd⟩ := o
  cases op <;> simp only [Op.operands] at h <;> simp only [evOp]
  case build t ps =>
    have : ps.toList.map (fun p => (p.1, ρ p.2)) = ps.toList.map fun p => (p.1, ρ' p.2) :=
      List.map_congr_left fun p hp' => by rw [h p.2 (by simp only [List.mem_toArray]; exact List.mem_map.2 ⟨p, hp', rfl⟩)]
    rw [this]
  case buildSlice t n ps =>
    have : ps.toList.map (fun p => ρ p.2) = ps.toList.map fun p => ρ' p.2 :=
      List.map_congr_left fun p hp' => h p.2 (by simp only [List.mem_toArray]; exact List.mem_map.2 ⟨p, hp', rfl⟩)
    rw [this]
  case makeFunc fn first caps =>
    rw [map_congr_ops fun x hx => h x (by simp [hx])]
  case slice t x lo hi mx =>
    have e1 : ρ x = ρ' x := h x (by simp)
    have e2 : lo.map ρ = lo.map ρ' := by cases lo with | none => rfl | some l => simp [h l (by simp)]
    have e3 : hi.map ρ = hi.map ρ' := by cases hi with | none => rfl | some l => simp [h l (by simp)]
    have e4 : mx.map ρ = mx.map ρ' := by cases mx with | none => rfl | some l => simp [h l (by simp)]
    rw [e1, e2, e3, e4]
  case call c =>
    obtain ⟨callee, args, tys⟩ := c
    have ea : args.toList.map ρ = args.toList.map ρ' := map_congr_ops fun x hx => h x (by simp [Call.operands, hx])
    cases callee with
    | builtin bi => simp only [ea]
    | invoke q m => rfl
    | value f =>
      have ef : ρ f = ρ' f := h f (by simp [Call.operands])
      cases f <;> simp only [ea, ef]
  all_goals (first | rfl | (simp_all; done))

/-! Memories of some objects. -/
def notH (js : List Nat) : Nat → List AObj → List AObj
  | _, [] => []
  | i, o :: h => cond (hasN i js) .dead o :: notH js (i + 1) h
def maskG (js : List Nat) (b : Nat) : Nat → List GO → List GO
  | _, [] => []
  | i, g :: G => cond (hasN i js) g (cond (Nat.blt i b) .gone .fresh) :: maskG js b (i + 1) G
def mixG (js : List Nat) : Nat → List GO → List GO → List GO
  | i, o :: h, o' :: h' => cond (hasN i js) o' o :: mixG js (i + 1) h h'
  | _, h, _ => h
theorem onlyH_get (js : List Nat) : ∀ (h : List AObj) (i j : Nat), (onlyH js i h)[j]? = h[j]?.map fun o => cond (hasN (i + j) js) o .dead
  | [], i, j => by simp [onlyH]
  | o :: h, i, 0 => by simp [onlyH]
  | o :: h, i, j + 1 => by simp only [onlyH, List.getElem?_cons_succ]; rw [onlyH_get js h (i + 1) j, show i + 1 + j = i + (j + 1) by omega]
theorem maskG_get (js : List Nat) (b : Nat) : ∀ (h : List GO) (i j : Nat), (maskG js b i h)[j]? = h[j]?.map fun o => cond (hasN (i + j) js) o (cond (Nat.blt (i + j) b) .gone .fresh)
  | [], i, j => by simp [maskG]
  | o :: h, i, 0 => by simp [maskG]
  | o :: h, i, j + 1 => by simp only [maskG, List.getElem?_cons_succ]; rw [maskG_get js b h (i + 1) j, show i + 1 + j = i + (j + 1) by omega]
theorem onlyH_length (js : List Nat) : ∀ (h : List AObj) (i : Nat), (onlyH js i h).length = h.length
  | [], _ => rfl
  | o :: h, i => by simp only [onlyH, List.length_cons, onlyH_length js h]
theorem maskG_length (js : List Nat) (b : Nat) : ∀ (h : List GO) (i : Nat), (maskG js b i h).length = h.length
  | [], _ => rfl
  | o :: h, i => by simp only [maskG, List.length_cons, maskG_length js b h]
theorem mixH_length (js : List Nat) : ∀ (h h' : List AObj) (i : Nat), (mixH js i h h').length = h.length
  | [], _, _ => by simp [mixH]
  | o :: h, [], _ => by simp [mixH]
  | o :: h, o' :: h', i => by simp only [mixH, List.length_cons, mixH_length js h]
theorem mixG_length (js : List Nat) : ∀ (h h' : List GO) (i : Nat), (mixG js i h h').length = h.length
  | [], _, _ => by simp [mixG]
  | o :: h, [], _ => by simp [mixG]
  | o :: h, o' :: h', i => by simp only [mixG, List.length_cons, mixG_length js h]
theorem mixH_in {js : List Nat} : ∀ {h h' : List AObj} {i j : Nat}, hasN (i + j) js = true → h'.length = h.length → (mixH js i h h')[j]? = h'[j]?
  | [], [], i, j, _, _ => by simp [mixH]
  | [], _ :: _, i, j, _, hl => by simp at hl
  | _ :: _, [], i, j, _, hl => by simp at hl
  | o :: h, o' :: h', i, 0, hj, _ => by simp only [Nat.add_zero] at hj; simp [mixH, hj]
  | o :: h, o' :: h', i, j + 1, hj, hl => by
    simp only [mixH, List.getElem?_cons_succ]
    exact mixH_in (by rw [show i + 1 + j = i + (j + 1) by omega]; exact hj) (by simpa using hl)
theorem mixH_out {js : List Nat} : ∀ {h h' : List AObj} {i j : Nat}, hasN (i + j) js = false → (mixH js i h h')[j]? = h[j]?
  | [], _, i, j, _ => by simp [mixH]
  | o :: h, [], i, j, _ => by simp [mixH]
  | o :: h, o' :: h', i, 0, hj => by simp only [Nat.add_zero] at hj; simp [mixH, hj]
  | o :: h, o' :: h', i, j + 1, hj => by
    simp only [mixH, List.getElem?_cons_succ]
    exact mixH_out (by rw [show i + 1 + j = i + (j + 1) by omega]; exact hj)
theorem mixG_in {js : List Nat} : ∀ {h h' : List GO} {i j : Nat}, hasN (i + j) js = true → h'.length = h.length → (mixG js i h h')[j]? = h'[j]?
  | [], [], i, j, _, _ => by simp [mixG]
  | [], _ :: _, i, j, _, hl => by simp at hl
  | _ :: _, [], i, j, _, hl => by simp at hl
  | o :: h, o' :: h', i, 0, hj, _ => by simp only [Nat.add_zero] at hj; simp [mixG, hj]
  | o :: h, o' :: h', i, j + 1, hj, hl => by
    simp only [mixG, List.getElem?_cons_succ]
    exact mixG_in (by rw [show i + 1 + j = i + (j + 1) by omega]; exact hj) (by simpa using hl)
theorem mixG_out {js : List Nat} : ∀ {h h' : List GO} {i j : Nat}, hasN (i + j) js = false → (mixG js i h h')[j]? = h[j]?
  | [], _, i, j, _ => by simp [mixG]
  | o :: h, [], i, j, _ => by simp [mixG]
  | o :: h, o' :: h', i, 0, hj => by simp only [Nat.add_zero] at hj; simp [mixG, hj]
  | o :: h, o' :: h', i, j + 1, hj => by
    simp only [mixG, List.getElem?_cons_succ]
    exact mixG_out (by rw [show i + 1 + j = i + (j + 1) by omega]; exact hj)
theorem resL_split (js : List Nat) (b : Nat) : ∀ (h : List AObj) (G : List GO) (i : Nat), (resL h G).Perm (resL (onlyH js i h) (maskG js b i G) ++ resL (notH js i h) G)
  | [], _, _ => List.Perm.refl _
  | o :: h, [], i => List.Perm.refl _
  | o :: h, g :: G, i => by
    have ih := resL_split js b h G (i + 1)
    simp only [onlyH, maskG, notH, resL]
    cases hasN i js with
    | true =>
      simp only [cond_true, resO_dead, List.nil_append, List.append_assoc]
      exact ih.append_left _
    | false =>
      simp only [cond_false, resO_dead, List.nil_append]
      refine (ih.append_left _).trans ?_
      rw [← List.append_assoc, ← List.append_assoc]
      exact List.perm_append_comm.append_right _
theorem resL_mix (js : List Nat) : ∀ (h h' : List AObj) (G G' : List GO) (i : Nat), h'.length = h.length → h.length = G.length → G'.length = G.length →
    (resL (mixH js i h h') (mixG js i G G')).Perm (resL (onlyH js i h') G' ++ resL (notH js i h) G)
  | [], [], G, G', i, _, _, _ => List.Perm.refl _
  | [], _ :: _, _, _, _, hl, _, _ => by simp at hl
  | _ :: _, [], _, _, _, hl, _, _ => by simp at hl
  | _ :: _, _ :: _, [], _, _, _, hl, _ => by simp at hl
  | _ :: _, _ :: _, _ :: _, [], _, _, _, hl => by simp at hl
  | o :: h, o' :: h', g :: G, g' :: G', i, h1, h2, h3 => by
    have ih := resL_mix js h h' G G' (i + 1) (by simpa using h1) (by simpa using h2) (by simpa using h3)
    simp only [onlyH, mixG, mixH, notH, resL]
    cases hasN i js with
    | true =>
      simp only [cond_true, resO_dead, List.nil_append, List.append_assoc]
      exact ih.append_left _
    | false =>
      simp only [cond_false, resO_dead, List.nil_append]
      refine (ih.append_left _).trans ?_
      rw [← List.append_assoc, ← List.append_assoc]
      exact List.perm_append_comm.append_right _
theorem resL_only (js : List Nat) : ∀ (h : List AObj) (G : List GO) (i : Nat), (resL (onlyH js i h) G).Sublist (resL h G)
  | [], _, _ => List.Sublist.refl _
  | o :: h, [], i => List.Sublist.refl _
  | o :: h, g :: G, i => by
    simp only [onlyH, resL]
    cases hasN i js with
    | true => exact (resL_only js h G (i + 1)).append_left _
    | false => simp only [cond_false, resO_dead, List.nil_append]; exact (resL_only js h G (i + 1)).trans (List.sublist_append_right _ _)

/-! What speaks of the objects js alone. -/
theorem RS.on {G G' : List GO} {Z : Zone} {w : World} {v : SV} {X : Value} (h : RS G Z w v X) (hr : ∀ j ∈ refsS v, ∀ g, G[j]? = some g → G'[j]? = some g) : RS G' Z w v X := by
  cases v with
  | own j v =>
    have := hr j (by simp [refsS])
    rcases h with h | ⟨ver, val, sz, xs, hg, hh⟩
    · exact .inl (this _ h)
    · exact .inr ⟨ver, val, sz, xs, this _ hg, hh⟩
  | ptr j o =>
    have := hr j (by simp [refsS])
    rcases h with h | ⟨bb, T, vs, hg, hh⟩
    · exact .inl (this _ h)
    · exact .inr ⟨bb, T, vs, this _ hg, hh⟩
  | op j v i o =>
    have := hr j (by simp [refsS])
    rcases h with h | ⟨ver, val, sz, xs, hg, hh⟩
    · exact .inl (this _ h)
    · exact .inr ⟨ver, val, sz, xs, this _ hg, hh⟩
  | fn f l =>
    obtain ⟨bs, hX, hh⟩ := h
    refine ⟨bs, hX, hh.mono fun j b hj q => ?_⟩
    have := hr j (by simpa [refsS] using hj)
    rcases q with h1 | ⟨T, vs, h1⟩
    · exact .inl (this _ h1)
    · exact .inr ⟨T, vs, this _ h1⟩
  | _ => exact h
theorem RV1.on {G G' : List GO} {Z : Zone} {w : World} {v : V1} {X : Value} (h : RV1 G Z w v X) (hr : ∀ j ∈ refsV v, ∀ g, G[j]? = some g → G'[j]? = some g) : RV1 G' Z w v X := by
  cases v with
  | one s => exact ⟨h.1.on hr, h.2⟩
  | agg l =>
    obtain ⟨xs, hX, hh⟩ := h
    exact ⟨xs, hX, hh.mono fun a _ ha q => ⟨q.1.on fun j hj => hr j (List.mem_flatMap.2 ⟨a, ha, hj⟩), q.2⟩⟩
theorem RV.on {G G' : List GO} {Z : Zone} {w : World} {v : AV} {X : Value} (h : RV G Z w v X) (hr : ∀ j ∈ refsA v, ∀ g, G[j]? = some g → G'[j]? = some g) : RV G' Z w v X := by
  cases v with
  | v v => exact RV1.on h hr
  | tup l =>
    obtain ⟨xs, hX, hh⟩ := h
    exact ⟨xs, hX, hh.mono fun a _ ha q => q.on fun j hj => hr j (List.mem_flatMap.2 ⟨a, ha, hj⟩)⟩
theorem RO.on {G G' : List GO} {Z : Zone} {w : World} {o : AObj} {g : GO} (h : RO G Z w o g) (hr : ∀ j ∈ refsO (some o), ∀ g, G[j]? = some g → G'[j]? = some g) : RO G' Z w o g := by
  cases o with
  | cells l => cases g with
    | cells bb T vs => exact All2.mono h fun a _ ha q => ⟨q.1.on fun j hj => hr j (List.mem_flatMap.2 ⟨a, ha, hj⟩), q.2⟩
    | _ => exact h
  | arr e d ver fz => cases g <;> exact h
  | dead => cases g <;> exact h
end
end Go.Ab
