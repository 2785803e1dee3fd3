/- append of a row of the call's own onto another, in walks. No program in sight. -/
import Derived.Test.YtbkpfjabcohnpaaApp
import Derived.Test.YtbkpfjabcohnpaaRes
set_option linter.unusedVariables false
set_option linter.unusedSimpArgs false
namespace Go.Dk
open Go
section
variable {P : Program} {ops : Array Oper} {Q : Exit → Act → World → Prop} {dr : Bool} {fu k : Nat} {rest : List (Nat × Oper)} {a : Act} {w w0 : World} {M Z0 : Zone} {L : List Res} {φ : Fact}
  {d : Option Tmp} {ty : TypeId} {pos : String} {aft : Array Edge} {gd : Option (Nat × Bool)} {x y : Operand} {t t' : TypeId}
/-- append of a row of the call's own onto another. -/
theorem A3 {S : World → Prop} {e sz by_ i p n m c2 : Nat} {v : Value} {a2 : Option Addr} {xs news : List Value} [hp : AP P t e sz by_] (hw : St w0 M Z0 L φ w)
    (hg : Region.wanted ⟨d, .call ⟨.builtin .append, #[x, y], #[t, t]⟩, ty, pos, aft, gd⟩ (yielded ops a.tmps) = true)
    (hd : (!dr || (soleB ops ((k, ⟨d, .call ⟨.builtin .append, #[x, y], #[t, t]⟩, ty, pos, aft, gd⟩) :: rest) k ⟨d, .call ⟨.builtin .append, #[x, y], #[t, t]⟩, ty, pos, aft, gd⟩ && covB ops ((k, ⟨d, .call ⟨.builtin .append, #[x, y], #[t, t]⟩, ty, pos, aft, gd⟩) :: rest) ⟨d, .call ⟨.builtin .append, #[x, y], #[t, t]⟩, ty, pos, aft, gd⟩)) = true)
    (hx : a.eval x = v) (hy : a.eval y = .slice a2 m c2) (hi : L[i]? = some (rowR e sz v n xs)) (hq : L[p]? = some (rowR e sz (.slice a2 m c2) m news))
    (h1 : news.all (·.oneCell') = true) (hbytes : (n + m) * by_ ≤ 140737488355328) (h63 : n + m ≤ 9223372036854775807)
    (h : ∀ a' c' w', St w0 M Z0 (L.set i (rowR e sz (.slice a' (n + m) c') (n + m) (xs ++ news))) φ w' → wpT P ops Q dr fu (St w0 M Z0 (L.set i (rowR e sz (.slice a' (n + m) c') (n + m) (xs ++ news))) φ) rest (a.put d (.slice a' (n + m) c')) w') :
    wpT P ops Q dr (fu + 1) S ((k, ⟨d, .call ⟨.builtin .append, #[x, y], #[t, t]⟩, ty, pos, aft, gd⟩) :: rest) a w := by
  have ho2 : w.ownsRow 0 e sz (.slice a2 m c2) m news := hw.own _ (List.mem_of_getElem? hq)
  obtain ⟨hl, ⟨hv, h0⟩ | ⟨g, cap, cur, hv, _, hc, _, _, _, htk⟩⟩ := ho2
  · subst h0
    injection hv with h2 _ h3
    subst h2 h3
    have hne : news = [] := List.eq_nil_of_length_eq_zero (by simpa using hl)
    subst hne
    have ho1 : w.ownsRow 0 e sz v n xs := hw.own _ (List.mem_of_getElem? hi)
    obtain ⟨a1, c1, rfl, hle⟩ : ∃ a1 c1, v = .slice a1 n c1 ∧ n ≤ c1 := by
      rcases ho1.2 with ⟨rfl, h0⟩ | ⟨g, cap, cur, rfl, _, _, hle, _⟩
      · exact ⟨_, _, by rw [h0], by omega⟩
      · exact ⟨_, _, rfl, hle⟩
    obtain ⟨hu, i', z, hi', _, hsz, _, _, _⟩ := hp.out
    have hr := Go.Ab.run_append_none (P := P) (w := w) (t := t) (ty := ty) hu hi' (a := a1) (n := n) (c := c1) (Y := .slice none 0 0) ⟨none, 0, rfl⟩ hle
    have hL : L.set i (rowR e sz (.slice a1 (n + 0) c1) (n + 0) (xs ++ [])) = L := by
      rw [List.append_nil, Nat.add_zero]
      apply List.ext_getElem?
      intro j
      by_cases hj : i = j
      · subst hj; rw [set_self hi]; exact hi.symm
      · rw [List.getElem?_set_ne hj]
    have hh := h a1 c1 w (by rw [hL]; exact hw)
    rw [hL] at hh
    exact T_goC (S := S) (v := .slice a1 n c1) (w' := w) hd hg (Go.Ab.exec_append hx hy hr) hw hh
  · injection hv with h2 _ h3
    subst h2 h3
    refine A0 hw hg hd hx hy hi hl (fun j u hj => ?_) h1 hbytes h63 h
    rw [addr_add, Nat.zero_add]
    rw [← htk, List.getElem?_take] at hj
    split at hj
    · simp [World.cell?, hc]
      simpa using hj
    · cases hj
end
end Go.Dk
