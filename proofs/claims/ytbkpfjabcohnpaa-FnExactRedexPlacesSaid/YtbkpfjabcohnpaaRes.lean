/- Loops of the abstract run, named by the way to them. No program in sight. -/
import Derived.Test.YtbkpfjabcohnpaaDr1
set_option linter.unusedVariables false
namespace Go.Ab
open Go Go.Dk

def bytesOf (l : List UInt8) : ByteArray := ⟨l.toArray⟩
/-- The code at the end of a way, and what follows it; cs are the counts of the loops around it. -/
noncomputable def spot (E : Env) : List Nat → List Nat → Nat → Code → Kont → Option (Nat × Code × Kont)
  | [], _, i, c, k => some (i, c, k)
  | 0 :: p, cs, i, .seq a b, k => spot E p cs i a (thenK E (evC E i b) k)
  | 1 :: p, cs, i, .seq _ b, k => spot E p cs i b k
  | 0 :: p, cs, i, .cond _ a _, k => spot E p cs i a k
  | 1 :: p, cs, i, .cond _ _ b, k => spot E p cs i b k
  | 0 :: p, cs, _, .block id b, k => spot E p cs id b (blockK id k)
  | 9 :: p, c :: cs, i, .loop b, k => spot E p cs i b fun e s => match e with
      | .normal => evL (evC E i b) (atHead E.m (E.live i)) c (atHead E.m (E.live i) s) k
      | e => k e s
  | _, _, _, _, _ => none
/-- A loop, on its way round c times more. -/
noncomputable def runLoop (P : Program) (S : Say) (n : Nat) (f : FuncId) (m : Nat) (p cs : List Nat) (c : Nat) (s : AS) : OR :=
  match P.funcs[f]? with
  | some fn => (match fn.body with
    | some b => (match spot ⟨P, evF P S n, S.D, n, m, S.live f⟩ p cs 0 b (finK P (S.D.own f) fn m) with
      | some (i, .loop b, k) => evL (evC ⟨P, evF P S n, S.D, n, m, S.live f⟩ i b) (atHead m (S.live f i)) c s k
      | _ => none)
    | none => none)
  | none => none
end Go.Ab
