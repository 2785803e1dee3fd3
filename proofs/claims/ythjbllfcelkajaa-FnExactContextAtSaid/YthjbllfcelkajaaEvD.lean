/- Drawn terms: the drawing answers. -/
import Derived.Test.YthjbllfcelkajaaEvY
import Derived.Test.YthjbllfcelkajaaEvP
set_option linter.unusedVariables false
set_option linter.unusedSimpArgs false
namespace Go.Proofs.Ythjbllfcelkajaa
open Go Go.Ab Go.Dk
/-- A drawn term of at most z nodes; the reader has read at most to m. -/
abbrev IsDraw (z : Nat) (l : List UInt8) (m : Int) (r : List V1 × List AObj) : Prop := ∃ (t : T) (p : Int), r = ([tm t], [rdr l p]) ∧ t.size ≤ z ∧ RdOk l p m
theorem draw_weaken {o : OR} {z z' : Nat} {l : List UInt8} {m m' : Int} (h : Tot o (IsDraw z l m)) (hz : z ≤ z') (hm : m ≤ m') : Tot o (IsDraw z' l m') :=
  tot_mono h fun r ⟨t, p, e, h1, h2⟩ => ⟨t, p, e, Nat.le_trans h1 hz, h2.mono hm⟩
theorem t_valid {n : Nat} {t : T} (hn : t.size + 6 ≤ n) (hz : t.size ≤ 4000000) : Tot (FF n 61 [tm t] []) (fun r => r = ([bl (validB t)], [])) := ⟨_, f_TermValidS hn hz, rfl⟩
/-- A drawn valid term. -/
abbrev IsDrawV (l : List UInt8) (m : Int) (r : List V1 × List AObj) : Prop := ∃ (t : T) (p : Int), r = ([tm t], [rdr l p]) ∧ validB t = true ∧ RdOk l p m
theorem zero_valid : validB (.mk 7 0 []) = true := by decide +kernel
theorem set_size (ts : List T) (v : T) (h : 0 < ts.length) : T.sizeL (ts.set 0 v) ≤ T.sizeL ts + v.size := by
  match ts, h with
  | t :: ts, _ => simp only [List.set_cons_zero, T.sizeL]; omega
theorem snoc_size (ts : List T) (v : T) : T.sizeL (ts ++ [v]) = T.sizeL ts + v.size := by
  induction ts with
  | nil => simp [T.sizeL]
  | cons x ts ih => simp only [List.cons_append, T.sizeL, ih]; omega
theorem t_copy {n : Nat} {t : T} (hn : t.size + 5 ≤ n) (hz : t.size ≤ 4000000) : Tot (FF n 62 [tm t] []) (fun r => r = ow t) := ⟨_, f_l1Copy t hn hz, rfl⟩
theorem all_small (l : List ByteArray) (h : (l.all fun s => decide (s.size ≤ 300)) = true) (s : ByteArray) (hs : s ∈ l) : s.size ≤ 300 := by
  simpa using List.all_eq_true.1 h s hs
/-- A drawn term, of not too many nodes. -/
abbrev IsT (z : Nat) (r : List V1 × List AObj) : Prop := ∃ t : T, r = ([tm t], []) ∧ t.size ≤ z
end Go.Proofs.Ythjbllfcelkajaa
