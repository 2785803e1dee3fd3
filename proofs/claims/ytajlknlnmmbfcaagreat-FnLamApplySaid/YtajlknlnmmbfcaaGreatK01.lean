/- Part 1 of the proof. -/
import Derived.WalkKit
import Derived.OrdersHeld
import Derived.Deep.LoopGhost
import Derived.KernelRfl
import Derived.Laws.Tables
import Derived.Laws.AppendOwn
import Derived.ArgAppend
import Derived.Laws.MakeOwn
import Derived.Test.YtajlknlnmmbfcaaGreatRows
set_option linter.unusedVariables false
set_option linter.unusedSimpArgs false
section
namespace Go.Dk
open Go
section
variable {P : Program} {ops : Array Oper} {Q : Exit → Act → World → Prop}
end
end Go.Dk
namespace Go.Dk
open Go
abbrev bx := Nat → Prop
abbrev Fact := bx → World → Prop
def n8 (φ : Fact) : Prop := ∀ (Z Z' : bx) (w w' : World), (∀ b, Z b → b < w.heap.size → Z' b ∧ w'.heap[b]? = w.heap[b]?) → φ Z w → φ Z' w'
structure Ext (M : bx) (w w' : World) : Prop where
 os : w'.os = w.os
 tape : w'.tape = w.tape
 output : w'.output = w.output
 size : w.heap.size ≤ w'.heap.size
 block : ∀ k, k < w.heap.size → ¬ M k → w'.heap[k]? = w.heap[k]?
def GS : bx := fun _ => False
abbrev uZ := Ext GS
theorem Ext.refl (M : bx) (w : World) : Ext M w w := ⟨rfl, rfl, rfl, Nat.le_refl _, fun _ _ _ => rfl⟩
theorem Ext.trans {M : bx} {a b c : World} (h : Ext M a b) (k : Ext M b c) : Ext M a c :=
 ⟨k.os.trans h.os, k.tape.trans h.tape, k.output.trans h.output, Nat.le_trans h.size k.size, fun i hi hm => (k.block i (Nat.lt_of_lt_of_le hi h.size) hm).trans (h.block i hi hm)⟩
theorem Ext.kW {M M' : bx} {a b : World} (h : Ext M a b) (hm : ∀ k, k < a.heap.size → M k → M' k) : Ext M' a b :=
 ⟨h.os, h.tape, h.output, h.size, fun i hi hn => h.block i hi (fun hk => hn (hm i hi hk))⟩
theorem uZ.kW {M : bx} {a b : World} (h : uZ a b) : Ext M a b := Ext.kW h (fun _ _ h => h.elim)
theorem uZ.blk {a b : World} (h : uZ a b) {k : Nat} (hk : k < a.heap.size) : b.heap[k]? = a.heap[k]? := h.block k hk (fun h => h)
theorem uZ.below {a b : World} (h : uZ a b) : RowKit.Below a.heap.size a b := ⟨h.os, h.tape, h.output, h.size, fun k hk => h.blk hk⟩
theorem kj (w : World) (o : Obj) : (w.alloc o).heap.size = w.heap.size + 1 := by
 show (w.heap.push o).size = _; simp
theorem pQ (w : World) (o : Obj) : (w.alloc o).heap[w.heap.size]? = some o := by
 show (w.heap.push o)[w.heap.size]? = _; simp
theorem uZ.alloc (w : World) (o : Obj) : uZ w (w.alloc o) :=
 ⟨rfl, rfl, rfl, by rw [kj]; omega, fun _ hk _ => RowKit.Below.heap_alloc _ _ _ hk⟩
theorem wB {w : World} {b : Nat} {o : Obj} (h : w.heap[b]? = some o) : b < w.heap.size := by
 rcases Nat.lt_or_ge b w.heap.size with h' | h'
 ·exact h'
 ·rw [Array.getElem?_eq_none h'] at h; cases h
structure Res where
 foot : bx
 own : World → Prop
def Res.Local (r : Res) : Prop := ∀ w w' : World, (∀ b, r.foot b → w'.heap[b]? = w.heap[b]?) → r.own w → r.own w'
def blk (b : Nat) (cs : List Value) (T : TypeId) : Res := ⟨(· = b), fun w => w.heap[b]? = some (.cells cs.toArray T (0, 0))⟩
theorem vj (b : Nat) (cs : List Value) (T : TypeId) : (blk b cs T).Local := fun _ _ h k => (h b rfl).trans k
def kr (w0 : World) (Z0 : bx) (L : List Res) : bx := fun b => (Z0 b ∨ w0.heap.size ≤ b) ∧ ∀ r ∈ L, ¬ r.foot b
structure St (w0 : World) (M Z0 : bx) (L : List Res) (φ : Fact) (w : World) : Prop where
 ext : Ext M w0 w
 own : ∀ r ∈ L, r.own w
 loc : ∀ r ∈ L, r.Local
 key : ∀ r ∈ L, ∀ b, r.foot b → (M b ∨ w0.heap.size ≤ b) ∧ b < w.heap.size
 dis : L.Pairwise (fun r s => ∀ b, r.foot b → ¬ s.foot b)
 stab : n8 φ
 per : φ (kr w0 Z0 L) w
section
variable {w0 w w' : World} {M Z0 : bx} {L : List Res} {φ : Fact}
theorem St.init (w : World) (M Z0 : bx) {φ : Fact} (hs : n8 φ) (h : φ Z0 w) : St w M Z0 [] φ w :=
 ⟨Ext.refl _ _, nofun, nofun, nofun, .nil, hs, hs Z0 _ w w (fun _ hz _ => ⟨⟨.inl hz, nofun⟩, rfl⟩) h⟩
theorem St.grow (h : St w0 M Z0 L φ w) (hg : uZ w w') : St w0 M Z0 L φ w' :=
 ⟨h.ext.trans hg.kW, fun r hr => h.loc r hr w _ (fun b hb => hg.blk (h.key r hr b hb).2) (h.own r hr), h.loc,
  fun r hr b hb => ⟨(h.key r hr b hb).1, Nat.lt_of_lt_of_le (h.key r hr b hb).2 hg.size⟩, h.dis, h.stab,
  h.stab _ _ w _ (fun b hz hb => ⟨hz, hg.blk hb⟩) h.per⟩
def MD (ψ φ : Fact) : Fact := fun Z w => ψ Z w ∧ φ Z w
theorem n8.and {ψ φ : Fact} (h : n8 ψ) (k : n8 φ) : n8 (MD ψ φ) := fun Z Z' w w' hz hp => ⟨h Z Z' w w' hz hp.1, k Z Z' w w' hz hp.2⟩
theorem St.push (h : St w0 M Z0 L φ w) (hg : uZ w w') {r : Res} (hl : r.Local) (ho : r.own w') (hf : ∀ b, r.foot b → w.heap.size ≤ b ∧ b < w'.heap.size) : St w0 M Z0 (r :: L) φ w' := by
 have k := h.grow hg
 refine ⟨k.ext, ?_, ?_, ?_, ?_, k.stab, ?_⟩
 ·intro s hs; rcases List.mem_cons.1 hs with rfl | hs
  ·exact ho
  ·exact k.own s hs
 ·intro s hs; rcases List.mem_cons.1 hs with rfl | hs
  ·exact hl
  ·exact k.loc s hs
 ·intro s hs b hb; rcases List.mem_cons.1 hs with rfl | hs
  ·exact ⟨.inr (Nat.le_trans h.ext.size (hf b hb).1), (hf b hb).2⟩
  ·exact k.key s hs b hb
 ·refine List.Pairwise.cons (fun s hs b hb hb' => ?_) k.dis
  have := (h.key s hs b hb').2
  have := (hf b hb).1
  omega
 ·refine h.stab _ _ w w' (fun b hz hb => ⟨⟨hz.1, fun s hs hf' => ?_⟩, hg.blk hb⟩) h.per
  rcases List.mem_cons.1 hs with rfl | hs
  ·have := (hf b hf').1; omega
  ·exact hz.2 s hs hf'
theorem St.upd (h : St w0 M Z0 L φ w) {n : Nat} {r r' : Res} (hn : L[n]? = some r) (hx : Ext r.foot w w') (hl : r'.Local) (ho : r'.own w')
   (hf : ∀ b, r'.foot b → (r.foot b ∨ w.heap.size ≤ b) ∧ b < w'.heap.size) : St w0 M Z0 (L.set n r') φ w' := by
 have hnl : n < L.length := by
  rcases Nat.lt_or_ge n L.length with h' | h'
  ·exact h'
  ·rw [List.getElem?_eq_none h'] at hn; cases hn
 have hmem : r ∈ L := List.mem_of_getElem? hn
 have hget : L[n] = r := by rw [List.getElem?_eq_getElem hnl] at hn; exact Option.some.inj hn
 have disj : ∀ i (hi : i < L.length), i ≠ n → ∀ b, r.foot b → ¬ L[i].foot b := by
  intro i hi hne b hb hb'
  rcases Nat.lt_or_ge i n with hlt | hge
  ·have := List.pairwise_iff_getElem.1 h.dis i n hi hnl hlt b hb'
   rw [hget] at this; exact this hb
  ·have := List.pairwise_iff_getElem.1 h.dis n i hnl hi (by omega) b (by rw [hget]; exact hb)
   exact this hb'
 have new : ∀ b, w.heap.size ≤ b → w0.heap.size ≤ b := fun b hb => Nat.le_trans h.ext.size hb
 have H9 : ∀ i (hi : i < L.length), i ≠ n → L[i].own w' := by
  intro i hi hne
  refine h.loc _ (List.getElem_mem hi) w w' (fun b hb => hx.block b (h.key _ (List.getElem_mem hi) b hb).2 (fun hr => disj i hi hne b hr hb)) (h.own _ (List.getElem_mem hi))
 have el : ∀ s ∈ L.set n r', s = r' ∨ ∃ i, ∃ hi : i < L.length, i ≠ n ∧ s = L[i] := by
  intro s hs
  obtain ⟨i, hi, rfl⟩ := List.getElem_of_mem hs
  simp only [List.length_set] at hi
  by_cases hin : n = i
  ·subst hin; left; simp
  ·right; exact ⟨i, hi, fun e => hin e.symm, by rw [List.getElem_set_ne hin]⟩
 refine ⟨?_, ?_, ?_, ?_, ?_, h.stab, ?_⟩
 ·refine ⟨hx.os.trans h.ext.os, hx.tape.trans h.ext.tape, hx.output.trans h.ext.output, Nat.le_trans h.ext.size hx.size, fun k hk hm => ?_⟩
  rw [hx.block k (Nat.lt_of_lt_of_le hk h.ext.size) (fun hr => ?_), h.ext.block k hk hm]
  rcases (h.key r hmem k hr).1 with h1 | h1
  ·exact hm h1
  ·omega
 ·intro s hs; rcases el s hs with rfl | ⟨i, hi, hne, rfl⟩
  ·exact ho
  ·exact H9 i hi hne
 ·intro s hs; rcases el s hs with rfl | ⟨i, hi, hne, rfl⟩
  ·exact hl
  ·exact h.loc _ (List.getElem_mem hi)
 ·intro s hs b hb; rcases el s hs with rfl | ⟨i, hi, hne, rfl⟩
  ·refine ⟨?_, (hf b hb).2⟩
   rcases (hf b hb).1 with h1 | h1
   ·exact (h.key r hmem b h1).1
   ·exact .inr (new b h1)
  ·exact ⟨(h.key _ (List.getElem_mem hi) b hb).1, Nat.lt_of_lt_of_le (h.key _ (List.getElem_mem hi) b hb).2 hx.size⟩
 ·rw [List.pairwise_iff_getElem]
  intro i j hi hj hij b hb hb'
  simp only [List.length_set] at hi hj
  by_cases hin : n = i
  ·subst hin
   rw [List.getElem_set_self] at hb
   rw [List.getElem_set_ne (by omega)] at hb'
   rcases (hf b hb).1 with h1 | h1
   ·exact disj j hj (by omega) b h1 hb'
   ·have := (h.key _ (List.getElem_mem hj) b hb').2; omega
  ·rw [List.getElem_set_ne hin] at hb
   by_cases hjn : n = j
   ·subst hjn
    rw [List.getElem_set_self] at hb'
    rcases (hf b hb').1 with h1 | h1
    ·exact disj i hi (by omega) b h1 hb
    ·have := (h.key _ (List.getElem_mem hi) b hb).2; omega
   ·rw [List.getElem_set_ne hjn] at hb'
    exact List.pairwise_iff_getElem.1 h.dis i j hi hj hij b hb hb'
 ·refine h.stab _ _ w w' (fun b hz hb => ⟨⟨hz.1, fun s hs hf' => ?_⟩, hx.block b hb (hz.2 r hmem)⟩) h.per
  rcases el s hs with rfl | ⟨i, hi, hne, rfl⟩
  ·rcases (hf b hf').1 with h1 | h1
   ·exact hz.2 r hmem h1
   ·omega
  ·exact hz.2 _ (List.getElem_mem hi) hf'
theorem St.drop (h : St w0 M Z0 L φ w) (n : Nat) : St w0 M Z0 (L.eraseIdx n) φ w := by
 have sub : ∀ s ∈ L.eraseIdx n, s ∈ L := fun s hs => List.mem_of_mem_eraseIdx hs
 exact ⟨h.ext, fun s hs => h.own s (sub s hs), fun s hs => h.loc s (sub s hs), fun s hs => h.key s (sub s hs), h.dis.sublist (List.eraseIdx_sublist L n), h.stab,
  h.stab _ _ w w (fun b hz _ => ⟨⟨hz.1, fun s hs => hz.2 s (sub s hs)⟩, rfl⟩) h.per⟩
theorem St.cell (h : St w0 M Z0 L φ w) {n b off : Nat} {cs : List Value} {T : TypeId} {v : Value} (hn : L[n]? = some (blk b cs T)) (hv : cs[off]? = some v) : w.cell? ⟨b, off, none⟩ = some v := by
 have := h.own _ (List.mem_of_getElem? hn)
 simp only [blk] at this
 simp [World.cell?, this, hv]
theorem St.alloc (h : St w0 M Z0 L φ w) (cs : List Value) (T : TypeId) : St w0 M Z0 (blk w.heap.size cs T :: L) φ (w.alloc (.cells cs.toArray T (0, 0))) :=
 h.push (uZ.alloc _ _) (vj _ _ _) (pQ _ _) (by intro b hb; simp only [blk] at hb; subst hb; rw [kj]; omega)
theorem Ext.setCell (w : World) (a : Addr) (v : Value) : Ext (· = a.block) w (w.setCell a v) :=
 ⟨rfl, rfl, rfl, by simp [World.setCell], fun _ _ hm => RowKit.Below.heap_setCell _ _ _ _ hm⟩
end
end Go.Dk
namespace Go.Dk
open Go
structure Yld (P : Program) (S : World → Prop) (ρ : Operand → Value) (o : Oper) (v : Value) : Prop where
 out : ∀ w, S w → (execOp ρ o).run P w = .ok (.value v) w
def uh (P : Program) (t : TypeId) : Bool := match P.underlying t with | some (.struct _) | some (.array ..) | none => false | _ => true
def ni (P : Program) (t : TypeId) : Option Nat := match P.underlying t, P.info? t with | some (.struct _), some i => some i.size | _, _ => none
def mb (P : Program) (t : TypeId) (i : Nat) : Option Nat := match P.underlying t with
 | some (.struct fs) => match fs[i]? with
  | some f => match P.info? f.type with
   | some inf => if inf.size = 0 then none else some f.offset
   | none => none
  | none => none
 | _ => none
def ll (P : Program) (t : TypeId) : Option Nat := match P.underlying t with
 | some (.slice e) => match P.info? e with
  | some inf => some inf.size
  | none => none
 | _ => none
def nP (P : Program) (t : TypeId) : Bool := match P.underlying t with | some .string => true | _ => false
def aU (s : ByteArray) (i : Nat) : UInt8 := (s.data.toList[i]?).getD 0
theorem run_underlying {P : Program} {t : TypeId} {de : TypeDesc} (h : P.underlying t = some de) (w : World) : (underlying t).run P w = .ok de w := by
 show (Sem.run P (match P.underlying t with | some d => pure d | none => stuck "no such type") w) = _
 rw [h]; rfl
theorem run_typeInfo {P : Program} {t : TypeId} {i : TypeInfo} (h : P.info? t = some i) (w : World) : (typeInfo t).run P w = .ok i w := by
 show (Sem.run P (match P.info? t with | some d => pure d | none => stuck "no such type") w) = _
 rw [h]; rfl
theorem run_sizeOf {P : Program} {t : TypeId} {i : TypeInfo} (h : P.info? t = some i) (w : World) : (sizeOf t).run P w = .ok i.size w := by
 simp [go_sem, sizeOf, run_typeInfo h]
theorem run_equal_bool {P : Program} {t : TypeId} (h : P.underlying t = some .bool) (a b : Bool) (w : World) : (Op.equal t (.bool a) (.bool b)).run P w = .ok (decide (a = b)) w := by
 unfold Op.equal Op.maxDepth
 rw [show (10000 : Nat) = 9999 + 1 from rfl, Op.equalIn, Sem.run_bind, run_underlying h]
 cases a <;> cases b <;> rfl
section
variable {P : Program} {S : World → Prop} {ρ : Operand → Value} {d : Option Tmp} {ty : TypeId} {pos : String} {aft : Array Edge} {gd : Option (Nat × Bool)} {x y c : Operand} {t t' : TypeId}
theorem J4 {u : Value} (h : ρ x = u) : Yld P S ρ ⟨d, .move x, ty, pos, aft, gd⟩ u := .mk fun _ _ => by simp [go_sem, execOp, h]
theorem Gp {u : Value} (h : ρ x = u) : Yld P S ρ ⟨d, .assign x, ty, pos, aft, gd⟩ u := .mk fun _ _ => by simp [go_sem, execOp, h]
theorem I3 {u : Value} (hc : ρ c = .bool true) (hx : ρ x = u) : Yld P S ρ ⟨d, .pick c x y, ty, pos, aft, gd⟩ u := .mk fun _ _ => by
 simp [go_sem, execOp, hc, hx, asBool]
theorem Jc {u : Value} (hc : ρ c = .bool false) (hy : ρ y = u) : Yld P S ρ ⟨d, .pick c x y, ty, pos, aft, gd⟩ u := .mk fun _ _ => by
 simp [go_sem, execOp, hc, hy, asBool]
theorem B8 {a : Addr} (h : ρ x = .pointer (some a)) : Yld P S ρ ⟨d, .nilCheck x, ty, pos, aft, gd⟩ (.pointer (some a)) := .mk fun _ _ => by simp [go_sem, execOp, h]
theorem yK {f first cap} (h : ρ x = .func (.func f) first cap) : Yld P S ρ ⟨d, .nilCheck x, ty, pos, aft, gd⟩ (.func (.func f) first cap) := .mk fun _ _ => by simp [go_sem, execOp, h]
theorem Lw {a b : Bool} (hx : ρ x = .bool a) (hy : ρ y = .bool b) (ht : P.underlying t = some .bool) : Yld P S ρ ⟨d, .binOp .eql t x y t', ty, pos, aft, gd⟩ (.bool (decide (a = b))) := .mk fun _ _ => by
 simp [execOp, hx, hy, eqGuard, binOp, Sem.run_bind, run_equal_bool ht]
theorem KB {a b : Bool} (hx : ρ x = .bool a) (hy : ρ y = .bool b) (ht : P.underlying t = some .bool) : Yld P S ρ ⟨d, .binOp .neq t x y t', ty, pos, aft, gd⟩ (.bool (!decide (a = b))) := .mk fun _ _ => by
 simp [execOp, hx, hy, eqGuard, binOp, Sem.run_bind, run_equal_bool ht]
theorem Kl {a b : ByteArray} (hx : ρ x = .string a) (hy : ρ y = .string b) : Yld P S ρ ⟨d, .binOp .eql t x y t', ty, pos, aft, gd⟩ (.bool (a.toList == b.toList)) := .mk fun _ _ => by
 simp [go_sem, execOp, hx, hy, eqGuard, binOp, Op.stringOp]
theorem K9 {a b : ByteArray} (hx : ρ x = .string a) (hy : ρ y = .string b) : Yld P S ρ ⟨d, .binOp .neq t x y t', ty, pos, aft, gd⟩ (.bool (!(a.toList == b.toList))) := .mk fun _ _ => by
 simp [go_sem, execOp, hx, hy, eqGuard, binOp, Op.stringOp]
theorem Lh {a b : ByteArray} (hx : ρ x = .string a) (hy : ρ y = .string b) (h : a.size + b.size ≤ 9223372036854775807) : Yld P S ρ ⟨d, .binOp .add t x y t', ty, pos, aft, gd⟩ (.string (a ++ b)) := .mk fun _ _ => by
 have h' : ¬ ((a.size + b.size : Nat) : Int) > IntKind.i64.max := by
  have : IntKind.i64.max = 9223372036854775807 := rfl
  omega
 simp only [go_sem, execOp, hx, hy, eqGuard, binOp, Op.stringOp, if_neg h']
 simp [go_sem]
theorem Gw {a : ByteArray} (hs : nP P t = true) (h : ρ x = .string a) : Yld P S ρ ⟨d, .call ⟨.builtin .len, #[x], #[t]⟩, ty, pos, aft, gd⟩ (.int .i64 (a.size : Int)) := .mk fun _ _ => by
 have hu : P.underlying t = some .string := by unfold nP at hs; split at hs <;> simp_all
 simp [execOp, resolve, invoke, builtin, Builtin.len_, h, Sem.run_bind, run_underlying hu, goInt]
theorem sH {a : Option Addr} {n cap m : Nat} (hs : ll P t = some m) (h : ρ x = .slice a n cap) : Yld P S ρ ⟨d, .call ⟨.builtin .len, #[x], #[t]⟩, ty, pos, aft, gd⟩ (.int .i64 (n : Int)) := .mk fun _ _ => by
 unfold ll at hs
 split at hs
 ·rename_i e hu
  simp [execOp, resolve, invoke, builtin, Builtin.len_, h, Sem.run_bind, run_underlying hu, goInt]
 ·cases hs
theorem kV {b off k i : Nat} (hf : mb P t i = some k) (h : ρ x = .pointer (some ⟨b, off, none⟩)) : Yld P S ρ ⟨d, .fieldAddr t x i, ty, pos, aft, gd⟩ (.pointer (some ⟨b, off + k, none⟩)) := .mk fun _ _ => by
 unfold mb at hf
 split at hf
 ·rename_i fs hu
  split at hf
  ·rename_i f hfi
   split at hf
   ·rename_i inf hi
    split at hf
    ·cases hf
    ·rename_i hz
     obtain rfl := Option.some.inj hf
     simp only [execOp, Instr.fieldAt, h, Sem.run_bind, run_underlying hu, Result.andThen_ok, hfi, Instr.sureAddr, fieldPlace, run_sizeOf hi, if_neg hz, Addr.add, Sem.run_pure]
     by_cases h0 : f.offset = 0
     ·simp [h0]
     ·simp [h0]
   ·cases hf
  ·cases hf
 ·cases hf
theorem px {b off len cap m : Nat} {i : Int} (hs : ll P t = some m) (h : ρ x = .slice (some ⟨b, off, none⟩) len cap) (hi : ρ y = .int .i64 i) (hb : 0 ≤ i ∧ i < len) : Yld P S ρ ⟨d, .indexAddr t x y, ty, pos, aft, gd⟩ (.pointer (some ⟨b, off + i.toNat * m, none⟩)) := .mk fun _ _ => by
 unfold ll at hs
 split at hs
 ·rename_i e hu
  split at hs
  ·rename_i inf hin
   obtain rfl := Option.some.inj hs
   have hc : 0 ≤ i ∧ i < (len : Int) := hb
   simp only [execOp, Instr.indexAt, asIntOf, h, hi, Sem.run_bind, Sem.run_pure, run_underlying hu, Result.andThen_ok, if_pos hc, run_sizeOf hin, Addr.add]
   by_cases h0 : i.toNat * inf.size = 0
   ·simp [h0]
   ·simp [h0]
  ·cases hs
 ·cases hs
theorem Ck {a : ByteArray} {k : IntKind} {i : Int} (hs : nP P t = true) (h : ρ x = .string a) (hi : ρ y = .int k i) (hb : 0 ≤ i ∧ i.toNat < a.size) : Yld P S ρ ⟨d, .index t x y, ty, pos, aft, gd⟩ (.int .u8 ((aU a i.toNat).toNat : Int)) := .mk fun _ _ => by
 have hu : P.underlying t = some .string := by unfold nP at hs; split at hs <;> simp_all
 have hg : a[i.toNat]? = some (a[i.toNat]'hb.2) := by rw [getElem?_pos a i.toNat hb.2]
 have hv : ((aU a i.toNat).toNat : Int) = ((a[i.toNat]'hb.2).toNat : Int) := by
  have hb2 : i.toNat < a.data.toList.length := by simpa using hb.2
  unfold aU; rw [List.getElem?_eq_getElem hb2]; rfl
 simp [execOp, Instr.index, asIntOf, h, hi, Sem.run_bind, run_underlying hu, hb.1, hg, hv]
theorem DM {vs : Array Value} {i : Nat} {u : Value} (h : ρ x = .tuple vs) (hv : vs[i]? = some u) : Yld P S ρ ⟨d, .extract x i, ty, pos, aft, gd⟩ u := .mk fun _ _ => by
 simp [go_sem, execOp, Instr.extract, h, hv]
theorem Cl {fn : Fn} {first cap : List Operand} {vf vc : List Value} (hf : first.map ρ = vf) (hc : cap.map ρ = vc) : Yld P S ρ ⟨d, .makeFunc fn first.toArray cap.toArray, ty, pos, aft, gd⟩ (.func fn vf.toArray vc.toArray) := .mk fun _ _ => by
 simp [go_sem, execOp, Instr.makeFunc, ← hf, ← hc]
end
theorem Mx (l : List Value) (ds : List Deferred) (t : Tmp) : Act.eval ⟨l.toArray, ds⟩ (.tmp t) = l.getD t undef := by
 show (l.toArray).getD t undef = _
 simp [List.getD]
section
variable {P : Program} {ops : Array Oper} {Q : Exit → Act → World → Prop} {dr : Bool} {S : World → Prop} {fu k : Nat} {o : Oper} {rest : List (Nat × Oper)} {a : Act} {w : World}
def xy (P : Program) (f : FuncId) : Bool := match P.funcs[f]? with
 | some fn => fn.name != "runtime.NumGoroutine" && fn.body.isSome
 | none => false
theorem wM {f : FuncId} (h : xy P f = true) (args : Array Value) (w : World) : (callFunc f args).run P w = .ok (.enter f args) w := by
 unfold xy at h
 split at h
 ·rename_i fn hf
  simp only [Bool.and_eq_true, bne_iff_ne, ne_eq] at h
  simp [go_sem, callFunc, hf, h.1]
  intro hn
  simp [hn] at h
 ·cases h
theorem pP {ρ : Operand → Value} {f : FuncId} {x : Operand} {first cap : Array Value} {xs : Array Operand} {ats : Array TypeId} {d : Option Tmp} {ty : TypeId} {pos : String} {aft : Array Edge} {gd : Option (Nat × Bool)}
   (hx : ρ x = .func (.func f) first cap) (hf : xy P f = true) (w : World) :
   (execOp ρ ⟨d, .call ⟨.value x, xs, ats⟩, ty, pos, aft, gd⟩).run P w = .ok (.enter f (first ++ xs.map ρ ++ cap)) w := by
 simp only [execOp, resolve, hx, Deferred.ofValue, Sem.run_bind, Sem.run_pure, Result.andThen_ok, invoke, wM hf]
end
section
variable {P : Program} {ops : Array Oper} {Q : Exit → Act → World → Prop} {dr : Bool} {fu k : Nat} {rest : List (Nat × Oper)} {a : Act} {w w0 : World} {M Z0 : bx} {L : List Res} {φ : Fact}
 {d : Option Tmp} {ty : TypeId} {pos : String} {aft : Array Edge} {gd : Option (Nat × Bool)} {x y : Operand} {t t' : TypeId}
theorem St.tail {r : Res} (h : St w0 M Z0 (r :: L) φ w) : St w0 M Z0 L φ w := by simpa using h.drop 0
theorem sa (P : Program) (t : TypeId) (v : Value) (w : World) : (newVar t v).run P w = .ok ⟨w.heap.size, 0, none⟩ (w.alloc (.cells v.cells t (0, 0))) := rfl
def oa (P : Program) (t : TypeId) : Option (List Value) := match P.info? t with
 | some i => match i.zero with
  | some z => some z.cells.toList
  | none => none
 | none => none
def jz (cs : List Value) (off : Nat) : List Value → List Value
 | [] => cs
 | v :: vs => jz (cs.set off v) (off + 1) vs
def uY : Value → Bool
 | .agg _ | .tuple _ => false
 | _ => true
theorem run_store {b off : Nat} {v u : Value} {w : World} {kk : Sem Unit} (h1 : uY v = true) (hc : w.cell? ⟨b, off, none⟩ = some u) (hf : w.frozen? ⟨b, off, none⟩ = false) :
   (Sem.store .plain ⟨b, off, none⟩ v kk).run P w = kk.run P (w.setCell ⟨b, off, none⟩ v) := by
 cases v <;> first | (simp [uY] at h1; done) | simp [Sem.run, hc, hf]
theorem kg (b off i : Nat) : Addr.add ⟨b, off, none⟩ i = ⟨b, off + i, none⟩ := by
 unfold Addr.add; split
 ·rename_i h; subst h; rfl
 ·rfl
end
end Go.Dk
namespace Go.Dk
open Go
inductive HT where
 | mk (k n : Int) (a : Option Addr) (cap : Nat) (kids : List HT)
inductive T where
 | mk (k n : Int) (kids : List T)
namespace HT
def k : HT → Int | .mk k _ _ _ _ => k
def n : HT → Int | .mk _ n _ _ _ => n
def a : HT → Option Addr | .mk _ _ a _ _ => a
def cap : HT → Nat | .mk _ _ _ c _ => c
def kids : HT → List HT | .mk _ _ _ _ ts => ts
def val (t : HT) : Value := .agg #[.int .i64 t.k, .int .i64 t.n, .slice t.a t.kids.length t.cap]
mutual
def er : HT → T | .mk k n _ _ ts => .mk k n (erL ts)
def erL : List HT → List T | [] => [] | t :: ts => er t :: erL ts
end
theorem H0 (ts : List HT) : erL ts = ts.map er := by induction ts with | nil => rfl | cons t ts ih => simp [erL, ih]
end HT
namespace T
def k : T → Int | .mk k _ _ => k
def n : T → Int | .mk _ n _ => n
def kids : T → List T | .mk _ _ ts => ts
end T
theorem HT.MI (t : HT) : t.er.k = t.k := by cases t; rfl
theorem HT.ML (t : HT) : t.er.n = t.n := by cases t; rfl
theorem HT.Jo (t : HT) : t.er.kids = t.kids.map HT.er := by cases t; simp [HT.er, T.kids, HT.kids, HT.H0]
mutual
def Rd (Z : bx) (w : World) : HT → Prop
 | .mk _ _ a cap kids => (kids = [] ∨ ∃ b off, a = some ⟨b, off, none⟩ ∧ Z b ∧ RdL Z w b off kids) ∧ kids.length ≤ cap ∧ kids.length ≤ 9223372036854775807
def RdL (Z : bx) (w : World) (b off : Nat) : List HT → Prop
 | [] => True
 | t :: ts => (w.cell? ⟨b, off, none⟩ = some (.int .i64 t.k) ∧ w.cell? ⟨b, off + 1, none⟩ = some (.int .i64 t.n) ∧ w.cell? ⟨b, off + 2, none⟩ = some (.slice t.a t.kids.length t.cap)) ∧ Rd Z w t ∧ RdL Z w b (off + 3) ts
end
theorem Dq {w : World} {b off : Nat} {v : Value} (h : w.cell? ⟨b, off, none⟩ = some v) : b < w.heap.size := World.block_lt_of_cell? w _ h
theorem lP {w w' : World} {b off : Nat} (h : w'.heap[b]? = w.heap[b]?) : w'.cell? ⟨b, off, none⟩ = w.cell? ⟨b, off, none⟩ := by
 simp only [World.cell?, h]
mutual
theorem Rd.aP (Z Z' : bx) (w w' : World) (hz : ∀ b, Z b → b < w.heap.size → Z' b ∧ w'.heap[b]? = w.heap[b]?) : ∀ t, Rd Z w t → Rd Z' w' t
 | .mk _ _ a cap kids, h => by
  simp only [Rd] at h ⊢
  refine ⟨?_, h.2⟩
  rcases h.1 with h1 | ⟨b, off, ha, hb, hl⟩
  ·exact .inl h1
  ·cases kids with
   | nil => exact .inl rfl
   | cons t ts =>
    have hlt : b < w.heap.size := by simp only [RdL] at hl; exact Dq hl.1.1
    exact .inr ⟨b, off, ha, (hz b hb hlt).1, RdL.aP Z Z' w w' hz b off (hz b hb hlt).2 _ hl⟩
theorem RdL.aP (Z Z' : bx) (w w' : World) (hz : ∀ b, Z b → b < w.heap.size → Z' b ∧ w'.heap[b]? = w.heap[b]?) (b off : Nat) (hk : w'.heap[b]? = w.heap[b]?) : ∀ ts, RdL Z w b off ts → RdL Z' w' b off ts
 | [], _ => by simp [RdL]
 | t :: ts, h => by
  simp only [RdL] at h ⊢
  exact ⟨⟨(lP hk).trans h.1.1, (lP hk).trans h.1.2.1, (lP hk).trans h.1.2.2⟩, Rd.aP Z Z' w w' hz t h.2.1, RdL.aP Z Z' w w' hz b (off + 3) hk ts h.2.2⟩
end
end Go.Dk
namespace Go.Dk
open Go
def jT (tmps : Array Value) : ResultVar → Sem Value
 | .tmp t => pure (tmps.getD t undef)
 | .cell a t => do loadVar t (← asAddr (tmps.getD a undef))
theorem CE (fn : Func) (tmps : Array Value) : results fn tmps = (do let vs ← fn.results.mapM (jT tmps); pure (if h : vs.size = 1 then vs[0] else .tuple vs)) := by
 have : (fun r => jT tmps r) = (fun (r : ResultVar) => (match r with | .tmp t => pure (tmps.getD t undef) | .cell a t => do loadVar t (← asAddr (tmps.getD a undef)) : Sem Value)) := by
  funext r; cases r <;> rfl
 show _ = (do let vs ← fn.results.mapM (fun r => jT tmps r); pure (if h : vs.size = 1 then vs[0] else .tuple vs))
 rw [this]; rfl
section
variable {P : Program} {fn : Func} {tmps : List Value} {w : World}
theorem Me {t : Tmp} {v : Value} (h : tmps.getD t undef = v) : (jT tmps.toArray (.tmp t)).run P w = .ok v w := by
 have : tmps.toArray.getD t undef = v := by simpa [List.getD] using h
 simp only [jT, this, Sem.run_pure]
theorem LB {a : Tmp} {t : TypeId} {ad : Addr} {v : Value} (h : tmps.getD a undef = .pointer (some ad)) (hl : (loadVar t ad).run P w = .ok v w) : (jT tmps.toArray (.cell a t)).run P w = .ok v w := by
 have : tmps.toArray.getD a undef = .pointer (some ad) := by simpa [List.getD] using h
 simp only [jT, this, asAddr, Sem.run_bind, Sem.run_pure, Result.andThen_ok, hl]
end
end Go.Dk
namespace Go.Dk
end Go.Dk
namespace Go.Dk
theorem St.get {w0 w : World} {M Z0 : bx} {L : List Res} {φ : Fact} (h : St w0 M Z0 L φ w) {n b : Nat} {cs : List Value} {T : TypeId} (hn : L[n]? = some (blk b cs T)) : w.heap[b]? = some (.cells cs.toArray T (0, 0)) := h.own _ (List.mem_of_getElem? hn)
end Go.Dk
namespace Go.Dk
theorem HT.ind {motive : HT → Prop} (h : ∀ t : HT, (∀ u ∈ t.kids, motive u) → motive t) (t : HT) : motive t :=
 h t (fun u hu => HT.ind h u)
 termination_by SizeOf.sizeOf t
 decreasing_by
 cases t
 simp only [HT.kids] at hu
 have := List.sizeOf_lt_of_mem hu
 simp only [HT.mk.sizeOf_spec]
 omega
theorem T.ind {motive : T → Prop} (h : ∀ t : T, (∀ u ∈ t.kids, motive u) → motive t) (t : T) : motive t :=
 h t (fun u hu => T.ind h u)
 termination_by SizeOf.sizeOf t
 decreasing_by
 cases t
 simp only [T.kids] at hu
 have := List.sizeOf_lt_of_mem hu
 simp only [T.mk.sizeOf_spec]
 omega
end Go.Dk
namespace Go.Dk
end Go.Dk
namespace Go.Dk
open Go
section
variable {P : Program} {S : World → Prop} {ρ : Operand → Value} {d : Option Tmp} {ty : TypeId} {pos : String} {aft : Array Edge} {gd : Option (Nat × Bool)} {x y c lo hi : Operand} {t t' : TypeId}
def LP (s : ByteArray) (c : UInt8) : Int := match s.data.toList.findIdx? (· == c) with
 | some i => (i : Int)
 | none => -1
theorem B0 (s : ByteArray) (c : UInt8) : ((List.range s.size).find? fun i => s[i]! == c) = s.data.toList.findIdx? (· == c) := by
 have hs : s.size = s.data.toList.length := by simp
 have hg : ∀ i, i < s.size → s[i]! = s.data.toList[i]?.getD 0 := by
  intro i hi
  rw [getElem!_pos s i hi]
  have hb2 : i < s.data.toList.length := by rw [← hs]; exact hi
  rw [List.getElem?_eq_getElem hb2]; rfl
 generalize hl : s.data.toList = l at *
 rw [hs]
 have hg' : ∀ i, i < l.length → s[i]! = l[i]?.getD 0 := fun i hi => hg i (by rw [hs]; exact hi)
 cases hf : l.findIdx? (· == c) with
 | none =>
  rw [List.find?_eq_none]
  intro i hi
  simp only [List.mem_range] at hi
  rw [List.findIdx?_eq_none_iff] at hf
  rw [hg' i hi, List.getElem?_eq_getElem hi]
  have := hf l[i] (List.getElem_mem hi)
  simpa using this
 | some k =>
  rw [List.findIdx?_eq_some_iff_getElem] at hf
  obtain ⟨hk, hp, hlt⟩ := hf
  rw [List.find?_range_eq_some]
  refine ⟨by rw [hg' k hk, List.getElem?_eq_getElem hk]; simpa using hp, by simpa using hk, fun j hj => ?_⟩
  rw [hg' j (by omega), List.getElem?_eq_getElem (by omega)]
  simpa using hlt j hj
def l7 (P : Program) (f : FuncId) : Prop := ∃ fn, P.funcs[f]? = some fn ∧ (fn.name == "runtime.NumGoroutine") = false ∧ fn.body.isNone = true ∧ Extern.findNext fn = none ∧ Extern.find fn = some Extern.BytealgIndexByte.indexByte
theorem y3 {f : FuncId} {s : ByteArray} {b : UInt8} {ats : Array TypeId} (hf : l7 P f) (hx : ρ x = .string s) (hy : ρ y = .int .u8 (b.toNat : Int)) (hff : ρ (.func f) = .func (.func f) #[] #[]) :
   Yld P S ρ ⟨d, .call ⟨.value (.func f), #[x, y], ats⟩, ty, pos, aft, gd⟩ (.int .i64 (LP s b)) := .mk fun w _ => by
 obtain ⟨fn, h1, h2, h3, h4, h5⟩ := hf
 have hr : (Extern.BytealgIndexByte.indexByte #[.string s, .int .u8 (b.toNat : Int)]).run P w = .ok (.int .i64 (LP s b)) w := by
  rw [run_indexByte_string]
  have hb : ((b.toNat : Int).toNat).toUInt8 = b := by simp
  unfold LP firstIdx
  rw [hb, B0]
  cases s.data.toList.findIdx? (· == b) <;> rfl
 simp only [execOp, resolve, hff, Deferred.ofValue, Sem.run_bind, Sem.run_pure, Result.andThen_ok, invoke]
 rw [show (#[] : Array Value) ++ #[x, y].map ρ ++ #[] = #[.string s, .int .u8 (b.toNat : Int)] by simp [hx, hy]]
 rw [run_callFunc_extern h1 h2 h3 h4 h5]
 rw [hr]; rfl
end
end Go.Dk
namespace Go.Dk
open Go
theorem iR : ∀ (vs cs : List Value) (off : Nat), (jz cs off vs).length = cs.length
 | [], cs, off => rfl
 | v :: vs, cs, off => by simp [jz, iR vs]
theorem Bx : ∀ (vs cs : List Value) (off i : Nat), off + vs.length ≤ cs.length → (jz cs off vs)[i]? = if off ≤ i ∧ i < off + vs.length then vs[i - off]? else cs[i]?
 | [], cs, off, i, _ => by simp [jz]; omega
 | v :: vs, cs, off, i, h => by
  simp only [List.length_cons] at h
  rw [jz, Bx vs _ _ _ (by simp; omega)]
  by_cases h1 : off + 1 ≤ i ∧ i < off + 1 + vs.length
  ·rw [if_pos h1, if_pos (by simp; omega), show i - off = (i - (off + 1)) + 1 by omega, List.getElem?_cons_succ]
  ·rw [if_neg h1]
   by_cases h2 : i = off
   ·subst h2; rw [if_pos (by simp), List.getElem?_set_self (by omega)]; simp
   ·rw [if_neg (by simp; omega), List.getElem?_set_ne (by omega)]
theorem vK (xs : List Value) : ∀ (k off : Nat) (A : Array Value), ((xs.zipIdx k).foldl (fun cs (p : Value × Nat) => cs.setIfInBounds (off + p.2) p.1) A).toList = jz A.toList (off + k) xs := by
 induction xs with
 | nil => intro k off A; rfl
 | cons x xs ih =>
  intro k off A
  simp only [List.zipIdx_cons, List.foldl_cons]
  rw [ih]
  simp [jz, Nat.add_assoc]
def gD : Nat → List Value → List (Nat × Value)
 | _, [] => []
 | k, v :: vs => (k, v) :: gD (k + 1) vs
def ot (vs : List Value) : List Value := vs.flatMap (fun v => v.cells.toList)
theorem r8 (size : Nat) : ∀ (vs : List Value) (k : Nat) (A : Array Value), (∀ v ∈ vs, v.cells.size = size) → (k + vs.length) * size ≤ A.size →
   ∃ B, Instr.fill (fun i => some (i * size, size)) A (gD k vs) = some B ∧ B.toList = jz A.toList (k * size) (ot vs)
 | [], k, A, _, _ => ⟨A, rfl, rfl⟩
 | v :: vs, k, A, hv, hs => by
  have h1 : v.cells.size = size := hv v (List.mem_cons_self ..)
  simp only [List.length_cons] at hs
  have hle : k * size + size ≤ A.size := by
   have : (k + 1) * size ≤ (k + (vs.length + 1)) * size := Nat.mul_le_mul_right _ (by omega)
   rw [Nat.add_mul, Nat.one_mul] at this; omega
  simp only [gD, Instr.fill]
  rw [if_neg (by simp [h1]; omega)]
  have hf : (v.cells.zipIdx.foldl (fun cs (p : Value × Nat) => cs.setIfInBounds (k * size + p.2) p.1) A).toList = jz A.toList (k * size) v.cells.toList := by
   have := vK v.cells.toList 0 (k * size) A
   simp only [Nat.add_zero] at this
   rw [← this]
   congr 1
   rw [← Array.foldl_toList]
   simp
  obtain ⟨B, hB, hl⟩ := r8 size vs (k + 1) (v.cells.zipIdx.foldl (fun cs (p : Value × Nat) => cs.setIfInBounds (k * size + p.2) p.1) A) (fun u hu => hv u (List.mem_cons_of_mem _ hu)) (by
   have : (v.cells.zipIdx.foldl (fun cs (p : Value × Nat) => cs.setIfInBounds (k * size + p.2) p.1) A).size = A.size := by
    rw [← Array.length_toList, hf, iR, Array.length_toList]
   rw [this, show k + 1 + vs.length = k + (vs.length + 1) by omega]; exact hs)
  refine ⟨B, hB, ?_⟩
  rw [hl, hf]
  simp only [ot, List.flatMap_cons]
  have happ : ∀ (a b cs : List Value) (off : Nat), jz (jz cs off a) (off + a.length) b = jz cs off (a ++ b) := by
   intro a
   induction a with
   | nil => intro b cs off; rfl
   | cons x a ih => intro b cs off; simp only [jz, List.length_cons, List.cons_append]; rw [← ih, show off + 1 + a.length = off + (a.length + 1) by omega]
  rw [← happ, show (k + 1) * size = k * size + v.cells.toList.length by rw [Array.length_toList, h1, Nat.add_mul, Nat.one_mul]]
theorem GK (vs cs : List Value) (h : vs.length = cs.length) : jz cs 0 vs = vs := by
 apply List.ext_getElem?
 intro i
 rw [Bx _ _ _ _ (by omega)]
 split
 ·simp
 ·rw [List.getElem?_eq_none (by omega), List.getElem?_eq_none (by omega)]
theorem j8 (size : Nat) : ∀ vs : List Value, (∀ v ∈ vs, v.cells.size = size) → (ot vs).length = vs.length * size
 | [], _ => by simp [ot]
 | v :: vs, h => by
  have := j8 size vs (fun u hu => h u (List.mem_cons_of_mem _ hu))
  simp only [ot, List.flatMap_cons, List.length_append, Array.length_toList, List.length_cons] at this ⊢
  rw [this, h v (List.mem_cons_self ..), Nat.add_mul, Nat.one_mul, Nat.add_comm]
def Ko (P : Program) (t : TypeId) : Option TypeId := match P.underlying t with | some (.slice e) => some e | _ => none
section
variable {P : Program} {ops : Array Oper} {Q : Exit → Act → World → Prop} {dr : Bool} {fu k : Nat} {rest : List (Nat × Oper)} {a : Act} {w w0 : World} {M Z0 : bx} {L : List Res} {φ : Fact}
 {d : Option Tmp} {ty : TypeId} {pos : String} {aft : Array Edge} {gd : Option (Nat × Bool)} {x y : Operand} {t t' : TypeId}
end
section
variable {P : Program} {ρ : Operand → Value} {w0 : World} {M Z0 : bx} {L : List Res} {φ : Fact} {d : Option Tmp} {ty : TypeId} {pos : String} {aft : Array Edge} {gd : Option (Nat × Bool)} {x : Operand} {t t' : TypeId}
end
end Go.Dk
namespace Go.Dk
open Go
theorem mj (f : Operand → Value) : ∀ (ps : List (Nat × Operand)) (k : Nat), ps.map (·.1) = List.range' k ps.length → ps.map (fun p => (p.1, f p.2)) = gD k (ps.map (fun p => f p.2))
 | [], _, _ => rfl
 | p :: ps, k, h => by
  simp only [List.map_cons, List.length_cons, List.range'_succ, List.cons.injEq] at h
  simp only [List.map_cons, gD, List.cons.injEq]
  exact ⟨by rw [h.1], mj f ps (k + 1) h.2⟩
section
variable {P : Program} {ops : Array Oper} {Q : Exit → Act → World → Prop} {dr : Bool} {fu k : Nat} {rest : List (Nat × Oper)} {a : Act} {w w0 : World} {M Z0 : bx} {L : List Res} {φ : Fact}
 {d : Option Tmp} {ty : TypeId} {pos : String} {aft : Array Edge} {gd : Option (Nat × Bool)} {x y : Operand} {t t' : TypeId}
end
end Go.Dk
namespace Go.Dk
open Go
class FO (P : Program) (t : TypeId) (i : Nat) (k : outParam Nat) : Prop where out : mb P t i = some k
class SL (P : Program) (t : TypeId) (m : outParam Nat) : Prop where out : ll P t = some m
class SC (P : Program) (t : TypeId) : Prop where out : uh P t = true
class ST3 (P : Program) (t : TypeId) : Prop where out : ni P t = some 3
class rC (P : Program) (t : TypeId) : Prop where out : nP P t = true
class KI (P : Program) (t : TypeId) : Prop where out : P.underlying t = some .bool
class Kh (P : Program) (t : TypeId) : Prop where out : P.underlying t = some (.int .i64)
class MA (P : Program) (t : TypeId) : Prop where out : P.underlying t = some (.int .u8)
class Kt (P : Program) (t : TypeId) : Prop where out : ∃ k, P.underlying t = some (.int k)
class SZ (P : Program) (t : TypeId) (m : outParam Nat) : Prop where out : (P.info? t).map (·.size) = some m
class ZR (P : Program) (t : TypeId) (cs : outParam (List Value)) : Prop where out : oa P t = some cs
class EB (P : Program) (t : TypeId) (e sz : outParam Nat) : Prop where out : Ko P t = some e ∧ (P.info? e).map (·.size) = some sz ∧ (oa P e).isSome = true
class CB (P : Program) (f : FuncId) : Prop where out : xy P f = true
class XIB (P : Program) (f : FuncId) : Prop where out : l7 P f
class CV (P : Program) (t t' : TypeId) : Prop where out : ∃ e, Ko P t = some e ∧ P.underlying e = some (.int .u8) ∧ nP P t' = true
class DrM (P : Program) : Prop where out : P.follows .mixedOrders = true
instance (P : Program) (t : TypeId) [h : Kh P t] : Kt P t := ⟨_, h.out⟩
instance (P : Program) (t : TypeId) [h : MA P t] : Kt P t := ⟨_, h.out⟩
structure MP (a : Int) : Prop where
 lo : -9223372036854775808 ≤ a
 hi : a ≤ 9223372036854775807
structure In8 (a : Int) : Prop where
 lo : 0 ≤ a
 hi : a ≤ 255
structure Dv (a b : Int) : Prop where
 lo : 0 ≤ a
 mx : a ≤ 9223372036854775807
 hi : 0 < b
section
variable {P : Program} {S : World → Prop} {ρ : Operand → Value} {d : Option Tmp} {ty : TypeId} {pos : String} {aft : Array Edge} {gd : Option (Nat × Bool)} {x y c : Operand} {t t' : TypeId}
end
structure Ix (i n : Int) : Prop where
 lo : 0 ≤ i
 hi : i < n
structure Le (i n : Int) : Prop where
 lo : 0 ≤ i
 hi : i ≤ n
inductive At (b : Nat) : List Res → List Value → TypeId → Prop
 | here {cs T L} : At b (blk b cs T :: L) cs T
 | there {r cs T L} (h : At b L cs T) : At b (r :: L) cs T
theorem At.get {b : Nat} {L : List Res} {cs : List Value} {T : TypeId} (h : At b L cs T) : ∃ n : Nat, L[n]? = some (blk b cs T) := by
 induction h with
 | here => exact ⟨0, rfl⟩
 | there _ ih => obtain ⟨n, hn⟩ := ih; exact ⟨n + 1, by simpa using hn⟩
inductive Ih (S : World → Prop) (b off : Nat) (v : Value) : Prop
 | mk (h : ∀ w, S w → w.cell? ⟨b, off, none⟩ = some v)
theorem Ih.own {w0 : World} {M Z0 : bx} {L : List Res} {φ : Fact} {b off : Nat} {cs : List Value} {T : TypeId} {v : Value} (h : At b L cs T) (hv : cs[off]? = some v) : Ih (St w0 M Z0 L φ) b off v := by
 obtain ⟨n, hn⟩ := h.get
 exact ⟨fun w hw => hw.cell hn hv⟩
inductive JZ (S : World → Prop) (b off : Nat) (v0 v1 v2 : Value) : Prop
 | mk (h : ∀ w, S w → w.cell? ⟨b, off, none⟩ = some v0 ∧ w.cell? ⟨b, off + 1, none⟩ = some v1 ∧ w.cell? ⟨b, off + 2, none⟩ = some v2)
theorem JZ.own {w0 : World} {M Z0 : bx} {L : List Res} {φ : Fact} {b off : Nat} {cs : List Value} {T : TypeId} {v0 v1 v2 : Value} (h : At b L cs T) (h0 : cs[off]? = some v0) (h1 : cs[off + 1]? = some v1) (h2 : cs[off + 2]? = some v2) : JZ (St w0 M Z0 L φ) b off v0 v1 v2 := by
 obtain ⟨n, hn⟩ := h.get
 exact ⟨fun w hw => ⟨hw.cell hn h0, hw.cell hn h1, hw.cell hn h2⟩⟩
def plT (P : Program) (t : TypeId) : Option (List (Nat × Nat)) := match P.underlying t with
 | some (.struct fs) => fs.toList.mapM fun f => (P.info? f.type).map fun i => (f.offset, i.size)
 | _ => none
class BT (P : Program) (t : TypeId) : Prop where
 pl : plT P t = some [(0, 1), (1, 1), (2, 1)]
 zero : oa P t = some [.int .i64 0, .int .i64 0, .slice none 0 0]
section
variable {P : Program} {ops : Array Oper} {Q : Exit → Act → World → Prop} {dr : Bool} {S : World → Prop} {fu k : Nat} {rest : List (Nat × Oper)} {a : Act} {w w0 : World} {M Z0 : bx} {L : List Res} {φ : Fact}
 {d : Option Tmp} {op : Op} {ty : TypeId} {pos : String} {aft : Array Edge} {gd : Option (Nat × Bool)} {t : TypeId} {x y : Operand}
inductive Upd (b : Nat) (f : List Value → List Value) : List Res → List Res → List Value → Prop
 | here {cs T L} : Upd b f (blk b cs T :: L) (blk b (f cs) T :: L) cs
 | there {r L L' cs} (h : Upd b f L L' cs) : Upd b f (r :: L) (r :: L') cs
theorem Upd.get {b : Nat} {f : List Value → List Value} {L L' : List Res} {cs : List Value} (h : Upd b f L L' cs) : ∃ n T, L[n]? = some (blk b cs T) ∧ L' = L.set n (blk b (f cs) T) := by
 induction h with
 | here => exact ⟨0, _, rfl, rfl⟩
 | there _ ih => obtain ⟨n, T, h1, h2⟩ := ih; exact ⟨n + 1, T, by simpa using h1, by simp [h2]⟩
end
end Go.Dk
end
section
namespace Go.Dk
open Go
section
variable {w0 w w' : World} {M Z0 : bx} {L L' : List Res} {φ : Fact} {r s r' : Res}
theorem St.perm (h : St w0 M Z0 L φ w) (hp : L.Perm L') : St w0 M Z0 L' φ w :=
 ⟨h.ext, fun r hr => h.own r (hp.mem_iff.2 hr), fun r hr => h.loc r (hp.mem_iff.2 hr), fun r hr => h.key r (hp.mem_iff.2 hr),
  (hp.pairwise_iff (fun {a b} hab x hx hx' => hab x hx' hx)).1 h.dis, h.stab,
  h.stab _ _ w w (fun b hz _ => ⟨⟨hz.1, fun r hr => hz.2 r (hp.mem_iff.2 hr)⟩, rfl⟩) h.per⟩
end
def HT.sl (t : HT) : Value := .slice t.a t.kids.length t.cap
def HT.head : Option Addr → List HT → List Nat
 | some ad, _ :: _ => [ad.block]
 | _, _ => []
mutual
def HT.blocks : HT → List Nat
 | .mk _ _ a _ kids => HT.head a kids ++ HT.Fi kids
def HT.Fi : List HT → List Nat
 | [] => []
 | t :: ts => HT.blocks t ++ HT.Fi ts
end
def Unf (w : World) (b : Nat) : Prop := ∃ cs T, w.heap[b]? = some (.cells cs T (0, 0))
def Mu (t : HT) : Res := ⟨(· ∈ t.blocks), fun w => Rd (fun _ => True) w t ∧ t.blocks.Nodup ∧ ∀ b ∈ t.blocks, Unf w b⟩
structure Own (w w' : World) (t : HT) : Prop where
 own : (Mu t).own w'
 new : ∀ b ∈ t.blocks, w.heap.size ≤ b
section
variable {w0 w w' : World} {M Z0 : bx} {L : List Res} {φ : Fact}
end
def gM (ts : List HT) : List Value := ot (ts.map HT.val)
theorem gT : gM [] = [] := rfl
theorem bR (t : HT) (ts : List HT) : gM (t :: ts) = .int .i64 t.k :: .int .i64 t.n :: t.sl :: gM ts := rfl
theorem nK (ts us : List HT) : gM (ts ++ us) = gM ts ++ gM us := by simp [gM, ot]
theorem xj (ts : List HT) : (gM ts).length = ts.length * 3 := by
 rw [gM, j8 3 _ (by intro v hv; obtain ⟨t, _, rfl⟩ := List.mem_map.1 hv; rfl)]; simp
theorem n9 {Z : bx} {w : World} {b : Nat} : ∀ (ts : List HT) (off : Nat), (∀ j u, (gM ts)[j]? = some u → w.cell? ⟨b, off + j, none⟩ = some u) → (∀ t ∈ ts, Rd Z w t) → RdL Z w b off ts
 | [], _, _, _ => by simp [RdL]
 | t :: ts, off, hc, hr => by
  simp only [RdL]
  rw [bR] at hc
  refine ⟨⟨by simpa using hc 0 _ rfl, hc 1 _ rfl, hc 2 _ rfl⟩, hr t (by simp), n9 ts (off + 3) (fun j u hj => ?_) (fun x hx => hr x (by simp [hx]))⟩
  rw [Nat.add_assoc, Nat.add_comm 3 j]
  exact hc (j + 3) u (by simpa using hj)
theorem Jh {Z : bx} {w : World} {k n : Int} {a : Option Addr} {cap : Nat} : Rd Z w (.mk k n a cap []) := by
 simp [Rd]
section
variable {w0 w w' : World} {M Z0 : bx} {L : List Res} {φ : Fact}
end
def Cr (e size : Nat) (v : Value) (n : Nat) (xs : List Value) : Res := ⟨fun b => v.ownBlock = some b, fun w => w.ownsRow 0 e size v n xs⟩
theorem BO (e size : Nat) (v : Value) (n : Nat) (xs : List Value) : (Cr e size v n xs).Local := by
 intro w w' h k
 simp only [Cr] at k h ⊢
 refine ⟨k.1, ?_⟩
 rcases k.2 with h1 | ⟨g, cap, cur, rfl, h2, h3, h4⟩
 ·exact .inl h1
 ·exact .inr ⟨g, cap, cur, rfl, h2, (h g rfl).trans h3, h4⟩
theorem qu {w w' : World} {v : Value} (h : w.grownBy w' v.ownBlock) : Ext (fun b => v.ownBlock = some b) w w' :=
 ⟨h.os, h.tape, h.output, h.size, fun k hk hm => h.block k hk (fun e => hm e.symm)⟩
class AP (P : Program) (t : TypeId) (e sz by_ : outParam Nat) : Prop where
 out : P.underlying t = some (.slice e) ∧ ∃ i z, P.info? e = some i ∧ i.zero = some z ∧ i.size = sz ∧ i.bytes = by_ ∧ z.cells.size = sz ∧ 0 < sz
def apB (P : Program) (t e sz by_ : Nat) : Bool := match P.underlying t with
 | some (.slice e') => e' == e && (match P.info? e with
  | some i => (match i.zero with
   | some z => i.size == sz && i.bytes == by_ && z.cells.size == sz && Nat.blt 0 sz
   | none => false)
  | none => false)
 | _ => false
theorem AP.of {P : Program} {t e sz by_ : Nat} (h : apB P t e sz by_ = true) : AP P t e sz by_ := by
 unfold apB at h
 split at h
 ·rename_i e' hu
  rw [Bool.and_eq_true] at h
  obtain ⟨h1, h2⟩ := h
  have h1 : e' = e := by simpa using h1
  subst h1
  split at h2
  ·rename_i i hi
   split at h2
   ·rename_i z hz
    simp only [Bool.and_eq_true, beq_iff_eq, Nat.blt_eq] at h2
    exact ⟨hu, i, z, hi, hz, h2.1.1.1, h2.1.1.2, h2.1.2, h2.2⟩
   ·cases h2
  ·cases h2
 ·cases h
theorem kJ {P : Program} (w : World) (t ty : TypeId) {e sz by_ : Nat} (hp : P.underlying t = some (.slice e) ∧ ∃ i z, P.info? e = some i ∧ i.zero = some z ∧ i.size = sz ∧ i.bytes = by_ ∧ z.cells.size = sz ∧ 0 < sz)
   (v : Value) (n : Nat) (xs : List Value) (hown : w.ownsRow 0 e sz v n xs)
   (a : Addr) (m c : Nat) (news : List Value) (hl : news.length = m * sz) (hnews : ∀ j u, news[j]? = some u → w.cell? (a.add j) = some u) (h1 : ∀ u ∈ news, u.oneCell' = true)
   (hbytes : (n + m) * by_ ≤ 140737488355328) (h63 : n + m ≤ 9223372036854775807) :
   ∃ v' w', (Builtin.append_ #[t, t] ty #[v, .slice (some a) m c]).run P w = .ok v' w' ∧ w'.ownsRow 0 e sz v' (n + m) (xs ++ news) ∧ w.grownBy w' v.ownBlock ∧ ∀ b, v'.ownBlock = some b → v.ownBlock = some b ∨ w.heap.size ≤ b := by
 obtain ⟨ht, i, z, hi, hz, hsize, hby, hzs, hsz⟩ := hp
 have h63' : n + m ≤ maxLen := by simp only [maxLen]; omega
 obtain ⟨v', w', hr, ho, hg, _⟩ := run_append_own (P := P) w 0 t ty e i z sz by_ ht hi hz hsize hby hzs hsz v n xs hown a m c news hl hnews h1 h63' hbytes (Nat.zero_le _)
 refine ⟨v', w', hr, ho, hg, ?_⟩
 rcases hown.2 with ⟨rfl, rfl⟩ | ⟨g, cap, cur, rfl, hbg, hgg, hnc, hcm, hcs, htake⟩
 ·obtain rfl : xs = [] := List.eq_nil_of_length_eq_zero (by simpa using hown.1)
  obtain ⟨v2, w2, hr2, ho2, _⟩ := run_append_own (P := P) w w.heap.size t ty e i z sz by_ ht hi hz hsize hby hzs hsz _ 0 [] (World.ownsRow_nil w _ e sz) a m c news hl hnews h1 h63' hbytes (Nat.le_refl _)
  rw [hr] at hr2
  obtain ⟨rfl, rfl⟩ : v' = v2 ∧ w' = w2 := by injection hr2 with h1 h2; exact ⟨h1, h2⟩
  intro b hb
  exact .inr (ho2.lt b hb).1
 ·by_cases hroom : n + m ≤ cap
  ·have hr2 := run_append_room (P := P) w t ty e i ht hi g n cap cur hgg a m c news (by rw [hsize]; exact hl) hnews h1 hroom (by rw [hsize, hl, hcs, ← Nat.add_mul]; exact Nat.mul_le_mul_right _ hroom)
   rw [hr] at hr2
   injection hr2 with h2 h3
   intro b hb
   rw [h2] at hb
   exact .inl hb
  ·obtain ⟨v2, w2, hr2, ho2, _⟩ := run_append_arg_grows (P := P) w t ty e i z sz by_ ht hi hz hsize hby hzs hsz ⟨g, 0, none⟩ n cap xs hown.1 (hown.cells (g := g) rfl) a m c news hl hnews (by omega) h63' hbytes
   rw [hr] at hr2
   obtain ⟨rfl, rfl⟩ : v' = v2 ∧ w' = w2 := by injection hr2 with h1 h2; exact ⟨h1, h2⟩
   intro b hb
   exact .inr (ho2.lt b hb).1
section
variable {P : Program} {ops : Array Oper} {Q : Exit → Act → World → Prop} {dr : Bool} {fu k : Nat} {rest : List (Nat × Oper)} {a : Act} {w w0 : World} {M Z0 : bx} {L : List Res} {φ : Fact}
 {d : Option Tmp} {ty : TypeId} {pos : String} {aft : Array Edge} {gd : Option (Nat × Bool)} {x y : Operand} {t t' : TypeId}
theorem Et (zs : List Value) : ∀ n i, i < n * zs.length → (List.replicate n zs).flatten[i]? = zs[i % zs.length]?
 | 0, i, h => by simp at h
 | n + 1, i, h => by
  rw [List.replicate_succ, List.flatten_cons]
  rcases Nat.lt_or_ge i zs.length with hi | hi
  ·rw [List.getElem?_append_left hi, Nat.mod_eq_of_lt hi]
  ·rw [List.getElem?_append_right hi, Et zs n (i - zs.length) (by rw [Nat.add_mul, Nat.one_mul] at h; omega), Nat.mod_eq_sub_mod hi]
theorem Js (zs : List Value) (n : Nat) : (madeCells zs.toArray (n * zs.length)).toList = (List.replicate n zs).flatten := by
 apply List.ext_getElem?
 intro i
 have hl : (List.replicate n zs).flatten.length = n * zs.length := by simp
 by_cases hi : i < n * zs.length
 ·have hz : 0 < zs.length := by
    rcases Nat.eq_zero_or_pos zs.length with h | h
    ·rw [h] at hi; simp at hi
    ·exact h
  have hm : i % zs.length < zs.length := Nat.mod_lt _ hz
  rw [Et zs n i hi]
  simp [madeCells, hi, hm]
 ·rw [List.getElem?_eq_none (by simp [madeCells]; omega), List.getElem?_eq_none (by rw [hl]; omega)]
end
end Go.Dk
namespace Go.Dk
open Go
mutual
def T.size : T → Nat
 | .mk _ _ kids => 1 + T.aE kids
def T.aE : List T → Nat
 | [] => 0
 | t :: ts => T.size t + T.aE ts
end
theorem T.size_eq (t : T) : t.size = 1 + T.aE t.kids := by cases t; rfl
theorem T.br : ∀ ts : List T, ts.length ≤ T.aE ts
 | [] => by simp [T.aE]
 | t :: ts => by have := T.br ts; have := T.size_eq t; simp only [T.aE, List.length_cons]; omega
theorem T.aV {t : T} : ∀ {ts : List T}, t ∈ ts → T.size t ≤ T.aE ts
 | u :: us, h => by
  simp only [T.aE]
  rcases List.mem_cons.1 h with rfl | h
  ·omega
  ·have := T.aV h; omega
theorem HT.Ml (t : HT) : t.er = .mk t.k t.n (t.kids.map HT.er) := by cases t; simp [HT.er, HT.k, HT.n, HT.kids, HT.H0]
mutual
def T.beq : T → T → Bool
 | .mk k n ts, .mk l m us => decide (k = l) && (decide (n = m) && T.yt ts us)
def T.yt : List T → List T → Bool
 | [], [] => true
 | t :: ts, u :: us => T.beq t u && T.yt ts us
 | _, _ => false
end
mutual
theorem T.beq_iff : ∀ t u : T, T.beq t u = true ↔ t = u
 | .mk k n ts, .mk l m us => by simp [T.beq, T.AO ts us]
theorem T.AO : ∀ ts us : List T, T.yt ts us = true ↔ ts = us
 | [], [] => by simp [T.yt]
 | [], u :: us => by simp [T.yt]
 | t :: ts, [] => by simp [T.yt]
 | t :: ts, u :: us => by simp [T.yt, T.beq_iff t u, T.AO ts us]
end
theorem T.beq_eq (t u : T) : T.beq t u = (decide (t.k = u.k) && (decide (t.n = u.n) && T.yt t.kids u.kids)) := by cases t; cases u; rfl
theorem T.beq_refl (t : T) : T.beq t t = true := (T.beq_iff t t).2 rfl
end Go.Dk
end
section
namespace Go.Proofs.YtajlknlnmmbfcaaGreat
open Go Go.Dk
instance : FO Tryz.prog 25 0 0 := ⟨by kernel_rfl⟩
instance : FO Tryz.prog 25 1 1 := ⟨by kernel_rfl⟩
instance : FO Tryz.prog 25 2 2 := ⟨by kernel_rfl⟩
instance : SZ Tryz.prog 25 3 := ⟨by kernel_rfl⟩
instance : ST3 Tryz.prog 25 := ⟨by kernel_rfl⟩
instance : ZR Tryz.prog 25 [.int .i64 0, .int .i64 0, .slice none 0 0] := ⟨by kernel_rfl⟩
instance : FO Tryz.prog 80 0 0 := ⟨by kernel_rfl⟩
instance : FO Tryz.prog 80 1 1 := ⟨by kernel_rfl⟩
instance : SL Tryz.prog 23 3 := ⟨by kernel_rfl⟩
instance : SC Tryz.prog 23 := ⟨by kernel_rfl⟩
instance : SZ Tryz.prog 23 1 := ⟨by kernel_rfl⟩
instance : ZR Tryz.prog 23 [.slice none 0 0] := ⟨by kernel_rfl⟩
instance : SL Tryz.prog 22 1 := ⟨by kernel_rfl⟩
instance : SC Tryz.prog 22 := ⟨by kernel_rfl⟩
instance : SZ Tryz.prog 22 1 := ⟨by kernel_rfl⟩
instance : ZR Tryz.prog 22 [.slice none 0 0] := ⟨by kernel_rfl⟩
instance : SL Tryz.prog 62 1 := ⟨by kernel_rfl⟩
instance : SC Tryz.prog 62 := ⟨by kernel_rfl⟩
instance : SZ Tryz.prog 62 1 := ⟨by kernel_rfl⟩
instance : ZR Tryz.prog 62 [.slice none 0 0] := ⟨by kernel_rfl⟩
instance : SL Tryz.prog 83 1 := ⟨by kernel_rfl⟩
instance : SC Tryz.prog 83 := ⟨by kernel_rfl⟩
instance : SZ Tryz.prog 83 1 := ⟨by kernel_rfl⟩
instance : ZR Tryz.prog 83 [.slice none 0 0] := ⟨by kernel_rfl⟩
instance : SC Tryz.prog 3 := ⟨by kernel_rfl⟩
instance : SZ Tryz.prog 3 1 := ⟨by kernel_rfl⟩
instance : Kh Tryz.prog 3 := ⟨by kernel_rfl⟩
instance : ZR Tryz.prog 3 [.int .i64 0] := ⟨by kernel_rfl⟩
instance : SC Tryz.prog 4 := ⟨by kernel_rfl⟩
instance : SZ Tryz.prog 4 1 := ⟨by kernel_rfl⟩
instance : KI Tryz.prog 4 := ⟨by kernel_rfl⟩
instance : ZR Tryz.prog 4 [.bool false] := ⟨by kernel_rfl⟩
instance : SC Tryz.prog 9 := ⟨by kernel_rfl⟩
instance : SZ Tryz.prog 9 1 := ⟨by kernel_rfl⟩
instance : rC Tryz.prog 9 := ⟨by kernel_rfl⟩
instance : ZR Tryz.prog 9 [.string ⟨#[]⟩] := ⟨by kernel_rfl⟩
instance : SC Tryz.prog 5 := ⟨by kernel_rfl⟩
instance : SZ Tryz.prog 5 1 := ⟨by kernel_rfl⟩
instance : MA Tryz.prog 5 := ⟨by kernel_rfl⟩
instance : EB Tryz.prog 22 5 1 := ⟨by kernel_rfl, by kernel_rfl, by kernel_rfl⟩
instance : EB Tryz.prog 62 3 1 := ⟨by kernel_rfl, by kernel_rfl, by kernel_rfl⟩
instance : EB Tryz.prog 83 9 1 := ⟨by kernel_rfl, by kernel_rfl, by kernel_rfl⟩
instance : EB Tryz.prog 23 25 3 := ⟨by kernel_rfl, by kernel_rfl, by kernel_rfl⟩
instance : CV Tryz.prog 22 9 := ⟨⟨5, by kernel_rfl, by kernel_rfl, by kernel_rfl⟩⟩
instance : BT Tryz.prog 25 := ⟨by kernel_rfl, by kernel_rfl⟩
instance : DrM Tryz.prog := ⟨by kernel_rfl⟩
instance : AP Tryz.prog 23 25 3 40 := AP.of (by kernel_rfl)
instance : AP Tryz.prog 62 3 1 8 := AP.of (by kernel_rfl)
instance : AP Tryz.prog 83 9 1 16 := AP.of (by kernel_rfl)
instance : AP Tryz.prog 22 5 1 1 := AP.of (by kernel_rfl)
instance : CB Tryz.prog 3 := ⟨by kernel_rfl⟩
instance : CB Tryz.prog 4 := ⟨by kernel_rfl⟩
instance : CB Tryz.prog 5 := ⟨by kernel_rfl⟩
instance : CB Tryz.prog 6 := ⟨by kernel_rfl⟩
instance : CB Tryz.prog 7 := ⟨by kernel_rfl⟩
instance : CB Tryz.prog 8 := ⟨by kernel_rfl⟩
instance : CB Tryz.prog 9 := ⟨by kernel_rfl⟩
instance : CB Tryz.prog 10 := ⟨by kernel_rfl⟩
instance : CB Tryz.prog 11 := ⟨by kernel_rfl⟩
instance : CB Tryz.prog 12 := ⟨by kernel_rfl⟩
instance : CB Tryz.prog 13 := ⟨by kernel_rfl⟩
instance : CB Tryz.prog 14 := ⟨by kernel_rfl⟩
instance : CB Tryz.prog 15 := ⟨by kernel_rfl⟩
instance : CB Tryz.prog 16 := ⟨by kernel_rfl⟩
instance : CB Tryz.prog 17 := ⟨by kernel_rfl⟩
instance : CB Tryz.prog 18 := ⟨by kernel_rfl⟩
instance : CB Tryz.prog 19 := ⟨by kernel_rfl⟩
instance : CB Tryz.prog 20 := ⟨by kernel_rfl⟩
instance : CB Tryz.prog 21 := ⟨by kernel_rfl⟩
instance : CB Tryz.prog 22 := ⟨by kernel_rfl⟩
instance : CB Tryz.prog 23 := ⟨by kernel_rfl⟩
instance : CB Tryz.prog 24 := ⟨by kernel_rfl⟩
instance : CB Tryz.prog 25 := ⟨by kernel_rfl⟩
instance : CB Tryz.prog 26 := ⟨by kernel_rfl⟩
instance : CB Tryz.prog 27 := ⟨by kernel_rfl⟩
instance : CB Tryz.prog 28 := ⟨by kernel_rfl⟩
instance : CB Tryz.prog 29 := ⟨by kernel_rfl⟩
instance : CB Tryz.prog 30 := ⟨by kernel_rfl⟩
instance : CB Tryz.prog 31 := ⟨by kernel_rfl⟩
instance : CB Tryz.prog 32 := ⟨by kernel_rfl⟩
instance : CB Tryz.prog 33 := ⟨by kernel_rfl⟩
instance : CB Tryz.prog 34 := ⟨by kernel_rfl⟩
instance : CB Tryz.prog 35 := ⟨by kernel_rfl⟩
instance : CB Tryz.prog 36 := ⟨by kernel_rfl⟩
instance : CB Tryz.prog 37 := ⟨by kernel_rfl⟩
instance : CB Tryz.prog 38 := ⟨by kernel_rfl⟩
instance : CB Tryz.prog 39 := ⟨by kernel_rfl⟩
instance : CB Tryz.prog 40 := ⟨by kernel_rfl⟩
instance : CB Tryz.prog 41 := ⟨by kernel_rfl⟩
instance : CB Tryz.prog 42 := ⟨by kernel_rfl⟩
instance : CB Tryz.prog 43 := ⟨by kernel_rfl⟩
instance : CB Tryz.prog 44 := ⟨by kernel_rfl⟩
instance : CB Tryz.prog 45 := ⟨by kernel_rfl⟩
instance : CB Tryz.prog 46 := ⟨by kernel_rfl⟩
instance : CB Tryz.prog 47 := ⟨by kernel_rfl⟩
instance : CB Tryz.prog 48 := ⟨by kernel_rfl⟩
instance : CB Tryz.prog 49 := ⟨by kernel_rfl⟩
instance : CB Tryz.prog 50 := ⟨by kernel_rfl⟩
instance : CB Tryz.prog 51 := ⟨by kernel_rfl⟩
instance : CB Tryz.prog 52 := ⟨by kernel_rfl⟩
instance : CB Tryz.prog 53 := ⟨by kernel_rfl⟩
instance : CB Tryz.prog 54 := ⟨by kernel_rfl⟩
instance : CB Tryz.prog 55 := ⟨by kernel_rfl⟩
instance : CB Tryz.prog 56 := ⟨by kernel_rfl⟩
instance : CB Tryz.prog 57 := ⟨by kernel_rfl⟩
instance : CB Tryz.prog 58 := ⟨by kernel_rfl⟩
instance : CB Tryz.prog 59 := ⟨by kernel_rfl⟩
instance : CB Tryz.prog 60 := ⟨by kernel_rfl⟩
instance : CB Tryz.prog 61 := ⟨by kernel_rfl⟩
instance : CB Tryz.prog 62 := ⟨by kernel_rfl⟩
instance : CB Tryz.prog 63 := ⟨by kernel_rfl⟩
instance : CB Tryz.prog 64 := ⟨by kernel_rfl⟩
instance : CB Tryz.prog 65 := ⟨by kernel_rfl⟩
instance : CB Tryz.prog 66 := ⟨by kernel_rfl⟩
instance : CB Tryz.prog 67 := ⟨by kernel_rfl⟩
instance : CB Tryz.prog 68 := ⟨by kernel_rfl⟩
instance : CB Tryz.prog 69 := ⟨by kernel_rfl⟩
instance : CB Tryz.prog 70 := ⟨by kernel_rfl⟩
instance : CB Tryz.prog 71 := ⟨by kernel_rfl⟩
instance : CB Tryz.prog 72 := ⟨by kernel_rfl⟩
instance : CB Tryz.prog 73 := ⟨by kernel_rfl⟩
instance : CB Tryz.prog 74 := ⟨by kernel_rfl⟩
instance : CB Tryz.prog 75 := ⟨by kernel_rfl⟩
instance : CB Tryz.prog 76 := ⟨by kernel_rfl⟩
instance : CB Tryz.prog 77 := ⟨by kernel_rfl⟩
instance : CB Tryz.prog 78 := ⟨by kernel_rfl⟩
instance : CB Tryz.prog 79 := ⟨by kernel_rfl⟩
instance : CB Tryz.prog 80 := ⟨by kernel_rfl⟩
instance : CB Tryz.prog 81 := ⟨by kernel_rfl⟩
instance : CB Tryz.prog 82 := ⟨by kernel_rfl⟩
instance : CB Tryz.prog 83 := ⟨by kernel_rfl⟩
instance : CB Tryz.prog 84 := ⟨by kernel_rfl⟩
instance : CB Tryz.prog 85 := ⟨by kernel_rfl⟩
instance : CB Tryz.prog 86 := ⟨by kernel_rfl⟩
instance : CB Tryz.prog 87 := ⟨by kernel_rfl⟩
instance : CB Tryz.prog 88 := ⟨by kernel_rfl⟩
instance : CB Tryz.prog 89 := ⟨by kernel_rfl⟩
instance : CB Tryz.prog 90 := ⟨by kernel_rfl⟩
instance : CB Tryz.prog 91 := ⟨by kernel_rfl⟩
instance : CB Tryz.prog 92 := ⟨by kernel_rfl⟩
instance : CB Tryz.prog 93 := ⟨by kernel_rfl⟩
instance : CB Tryz.prog 94 := ⟨by kernel_rfl⟩
instance : CB Tryz.prog 95 := ⟨by kernel_rfl⟩
instance : CB Tryz.prog 96 := ⟨by kernel_rfl⟩
instance : CB Tryz.prog 97 := ⟨by kernel_rfl⟩
instance : CB Tryz.prog 98 := ⟨by kernel_rfl⟩
instance : CB Tryz.prog 99 := ⟨by kernel_rfl⟩
instance : CB Tryz.prog 100 := ⟨by kernel_rfl⟩
instance : CB Tryz.prog 101 := ⟨by kernel_rfl⟩
instance : CB Tryz.prog 102 := ⟨by kernel_rfl⟩
instance : CB Tryz.prog 103 := ⟨by kernel_rfl⟩
instance : CB Tryz.prog 104 := ⟨by kernel_rfl⟩
instance : CB Tryz.prog 105 := ⟨by kernel_rfl⟩
instance : CB Tryz.prog 106 := ⟨by kernel_rfl⟩
instance : CB Tryz.prog 107 := ⟨by kernel_rfl⟩
instance : CB Tryz.prog 108 := ⟨by kernel_rfl⟩
instance : CB Tryz.prog 109 := ⟨by kernel_rfl⟩
instance : CB Tryz.prog 110 := ⟨by kernel_rfl⟩
instance : CB Tryz.prog 111 := ⟨by kernel_rfl⟩
instance : CB Tryz.prog 112 := ⟨by kernel_rfl⟩
instance : CB Tryz.prog 113 := ⟨by kernel_rfl⟩
instance : CB Tryz.prog 114 := ⟨by kernel_rfl⟩
instance : CB Tryz.prog 115 := ⟨by kernel_rfl⟩
instance : CB Tryz.prog 116 := ⟨by kernel_rfl⟩
instance : CB Tryz.prog 117 := ⟨by kernel_rfl⟩
instance : CB Tryz.prog 118 := ⟨by kernel_rfl⟩
instance : CB Tryz.prog 119 := ⟨by kernel_rfl⟩
instance : CB Tryz.prog 120 := ⟨by kernel_rfl⟩
instance : CB Tryz.prog 121 := ⟨by kernel_rfl⟩
instance : CB Tryz.prog 122 := ⟨by kernel_rfl⟩
instance : CB Tryz.prog 123 := ⟨by kernel_rfl⟩
instance : CB Tryz.prog 124 := ⟨by kernel_rfl⟩
instance : CB Tryz.prog 125 := ⟨by kernel_rfl⟩
instance : CB Tryz.prog 126 := ⟨by kernel_rfl⟩
instance : CB Tryz.prog 127 := ⟨by kernel_rfl⟩
instance : CB Tryz.prog 128 := ⟨by kernel_rfl⟩
instance : CB Tryz.prog 129 := ⟨by kernel_rfl⟩
instance : CB Tryz.prog 130 := ⟨by kernel_rfl⟩
instance : CB Tryz.prog 131 := ⟨by kernel_rfl⟩
instance : CB Tryz.prog 132 := ⟨by kernel_rfl⟩
instance : CB Tryz.prog 133 := ⟨by kernel_rfl⟩
instance : CB Tryz.prog 134 := ⟨by kernel_rfl⟩
instance : CB Tryz.prog 135 := ⟨by kernel_rfl⟩
instance : CB Tryz.prog 136 := ⟨by kernel_rfl⟩
instance : CB Tryz.prog 137 := ⟨by kernel_rfl⟩
instance : CB Tryz.prog 138 := ⟨by kernel_rfl⟩
instance : CB Tryz.prog 139 := ⟨by kernel_rfl⟩
instance : CB Tryz.prog 140 := ⟨by kernel_rfl⟩
instance : CB Tryz.prog 141 := ⟨by kernel_rfl⟩
instance : CB Tryz.prog 142 := ⟨by kernel_rfl⟩
instance : CB Tryz.prog 143 := ⟨by kernel_rfl⟩
instance : CB Tryz.prog 144 := ⟨by kernel_rfl⟩
instance : CB Tryz.prog 145 := ⟨by kernel_rfl⟩
instance : CB Tryz.prog 146 := ⟨by kernel_rfl⟩
instance : CB Tryz.prog 147 := ⟨by kernel_rfl⟩
instance : CB Tryz.prog 148 := ⟨by kernel_rfl⟩
instance : CB Tryz.prog 149 := ⟨by kernel_rfl⟩
instance : CB Tryz.prog 150 := ⟨by kernel_rfl⟩
instance : CB Tryz.prog 151 := ⟨by kernel_rfl⟩
instance : CB Tryz.prog 152 := ⟨by kernel_rfl⟩
instance : CB Tryz.prog 153 := ⟨by kernel_rfl⟩
instance : CB Tryz.prog 154 := ⟨by kernel_rfl⟩
instance : CB Tryz.prog 155 := ⟨by kernel_rfl⟩
instance : CB Tryz.prog 156 := ⟨by kernel_rfl⟩
instance : CB Tryz.prog 157 := ⟨by kernel_rfl⟩
instance : CB Tryz.prog 158 := ⟨by kernel_rfl⟩
instance : CB Tryz.prog 159 := ⟨by kernel_rfl⟩
instance : CB Tryz.prog 160 := ⟨by kernel_rfl⟩
instance : CB Tryz.prog 161 := ⟨by kernel_rfl⟩
instance : CB Tryz.prog 162 := ⟨by kernel_rfl⟩
instance : CB Tryz.prog 163 := ⟨by kernel_rfl⟩
instance : CB Tryz.prog 164 := ⟨by kernel_rfl⟩
instance : CB Tryz.prog 165 := ⟨by kernel_rfl⟩
instance : CB Tryz.prog 166 := ⟨by kernel_rfl⟩
instance : CB Tryz.prog 167 := ⟨by kernel_rfl⟩
instance : CB Tryz.prog 168 := ⟨by kernel_rfl⟩
instance : CB Tryz.prog 169 := ⟨by kernel_rfl⟩
instance : CB Tryz.prog 170 := ⟨by kernel_rfl⟩
instance : CB Tryz.prog 171 := ⟨by kernel_rfl⟩
instance : CB Tryz.prog 172 := ⟨by kernel_rfl⟩
instance : CB Tryz.prog 173 := ⟨by kernel_rfl⟩
instance : CB Tryz.prog 174 := ⟨by kernel_rfl⟩
instance : CB Tryz.prog 175 := ⟨by kernel_rfl⟩
instance : CB Tryz.prog 176 := ⟨by kernel_rfl⟩
instance : CB Tryz.prog 177 := ⟨by kernel_rfl⟩
instance : CB Tryz.prog 178 := ⟨by kernel_rfl⟩
instance : CB Tryz.prog 179 := ⟨by kernel_rfl⟩
instance : CB Tryz.prog 180 := ⟨by kernel_rfl⟩
instance : CB Tryz.prog 181 := ⟨by kernel_rfl⟩
instance : CB Tryz.prog 182 := ⟨by kernel_rfl⟩
instance : CB Tryz.prog 183 := ⟨by kernel_rfl⟩
end Go.Proofs.YtajlknlnmmbfcaaGreat
end
section
namespace Go.Ab
open Go Go.Dk
inductive SK | t | i | ii | s | b
def SK.beq : SK → SK → Bool
 | .t, .t | .i, .i | .ii, .ii | .s, .s | .b, .b => true
 | _, _ => false
inductive SD
 | ts (l : List T) | is (l : List Int) | iss (l : List (List Int)) | ss (l : List ByteArray) | bs (l : List UInt8)
inductive SE
 | t (t : T) | i (n : Int) | ii (l : List Int) | s (x : ByteArray) | b (c : UInt8)
def SK.size : SK → Nat | .t => 3 | _ => 1
def SK.nil : SK → SD | .t => .ts [] | .i => .is [] | .ii => .iss [] | .s => .ss [] | .b => .bs []
def SD.kind : SD → SK | .ts _ => .t | .is _ => .i | .iss _ => .ii | .ss _ => .s | .bs _ => .b
def SD.len : SD → Nat | .ts l => l.length | .is l => l.length | .iss l => l.length | .ss l => l.length | .bs l => l.length
inductive SV
 | int (k : IntKind) (n : Int)
 | bool (b : Bool)
 | str (x : ByteArray)
 | emp (k : Option (TypeId × SK))
 | fr (d : SD)
 | own (j v : Nat)
 | ptr (j off : Nat)
 | ep (e : SE) (off : Nat)
 | op (j v i off : Nat)
 | fn (f : FuncId) (caps : List Nat)
 | nilp
 | any
inductive V1 | one (s : SV) | agg (l : List SV)
inductive AV | v (x : V1) | tup (l : List V1)
inductive av | cells (l : List SV) | arr (e : TypeId) (d : SD) (ver : Nat) (fz : Bool) | dead
structure AS where
 tmps : List AV
 heap : List av
abbrev OR := Option (List V1 × List av)
def aa : AV := .v (.one .any)
def V1.cells : V1 → List SV | .one s => [s] | .agg l => l
def AV.cs : AV → Option (List SV)
 | .v (.one .any) => none
 | .v (.one s) => some [s]
 | .v (.agg l) => some l
 | .tup _ => none
def csL : List AV → Option (List (List SV))
 | [] => some []
 | v :: l => v.cs.bind fun c => (csL l).map (c :: ·)
def SE.cells : SE → List SV
 | .t x => [.int .i64 x.k, .int .i64 x.n, .fr (.ts x.kids)]
 | .i n => [.int .i64 n]
 | .ii l => [.fr (.is l)]
 | .s x => [.str x]
 | .b c => [.int .u8 (c.toNat : Int)]
def SD.get (d : SD) (i : Nat) (k : SE → OR) : OR :=
 match d with
 | .ts l => l[i]?.bind fun x => k (.t x)
 | .is l => l[i]?.bind fun x => k (.i x)
 | .iss l => l[i]?.bind fun x => k (.ii x)
 | .ss l => l[i]?.bind fun x => k (.s x)
 | .bs l => l[i]?.bind fun x => k (.b x)
def SD.app (d e : SD) (k : SD → OR) : OR :=
 match d, e with
 | .ts l, .ts m => k (.ts (l ++ m))
 | .is l, .is m => k (.is (l ++ m))
 | .iss l, .iss m => k (.iss (l ++ m))
 | .ss l, .ss m => k (.ss (l ++ m))
 | .bs l, .bs m => k (.bs (l ++ m))
 | _, _ => none
def SD.set (d : SD) (i : Nat) (e : SE) (k : SD → OR) : OR :=
 match d, e with
 | .ts l, .t x => k (.ts (l.set i x))
 | .is l, .i x => k (.is (l.set i x))
 | .iss l, .ii x => k (.iss (l.set i x))
 | .ss l, .s x => k (.ss (l.set i x))
 | .bs l, .b x => k (.bs (l.set i x))
 | _, _ => none
def SD.sub (d : SD) (lo hi : Nat) : SD :=
 match d with
 | .ts l => .ts ((l.take hi).drop lo)
 | .is l => .is ((l.take hi).drop lo)
 | .iss l => .iss ((l.take hi).drop lo)
 | .ss l => .ss ((l.take hi).drop lo)
 | .bs l => .bs ((l.take hi).drop lo)
def Ek (P : Program) (e : TypeId) : Option SK :=
 match P.underlying e with
 | some (.struct _) => (match ni P e with | some 3 => some .t | _ => none)
 | some (.int .i64) => some .i
 | some (.int .u8) => some .b
 | some .string => some .s
 | some (.slice e') => (match P.underlying e' with | some (.int .i64) => some .ii | _ => none)
 | _ => none
def Fk (P : Program) (e : TypeId) (k : SK) : Bool := match P.info? e with
 | some i => (match i.zero with
  | some z => Nat.beq i.size k.size && (Nat.beq z.cells.size k.size && Nat.ble i.bytes 64)
  | none => false)
 | none => false
def B6 (P : Program) (e : TypeId) : Option SK := (Ek P e).bind fun k => cond (Fk P e k) (some k) none
def cM (P : Program) (t : TypeId) : Option (TypeId × SK) := match P.underlying t with | some (.slice e) => (B6 P e).map fun k => (e, k) | _ => none
def leaves (P : Program) : Nat → TypeId → List (Option (TypeId × SK))
 | 0, _ => [none]
 | n + 1, t => match P.underlying t with
  | some (.struct fs) => fs.toList.flatMap fun f => leaves P n f.type
  | some (.slice _) => [cM P t]
  | _ => [none]
def Jw (k : Option (TypeId × SK)) : Value → SV
 | .int k n => .int k n
 | .bool b => .bool b
 | .string s => .str s
 | .slice none 0 0 => .emp k
 | .pointer none => .nilp
 | _ => .any
def D2 : List (Option (TypeId × SK)) → List Value → List SV
 | k :: ks, v :: vs => Jw k v :: D2 ks vs
 | [], v :: vs => Jw none v :: D2 [] vs
 | _, [] => []
def AV.ofValue : Value → AV
 | .agg cs => cond (cs.toList.all uY) (.v (.agg (D2 [] cs.toList))) aa
 | .tuple _ => aa
 | x => .v (.one (Jw none x))
def qq (P : Program) (t : TypeId) : AV → AV
 | .v (.one (.emp none)) => .v (.one (.emp (cM P t)))
 | .v (.agg l) => .v (.agg (go (leaves P 4 t) l))
 | x => x
where go : List (Option (TypeId × SK)) → List SV → List SV
 | k :: ks, .emp none :: l => .emp k :: go ks l
 | _ :: ks, x :: l => x :: go ks l
 | [], l => l
 | _, [] => []
def Ez (P : Program) (t : TypeId) : Option (List SV) := (oa P t).bind fun z => cond (z.all uY) (some (D2 (leaves P 4 t) z)) none
def AS.ev (s : AS) : Operand → AV
 | .tmp t => s.tmps.getD t aa
 | .const v => AV.ofValue v
 | .func f => .v (.one (.fn f []))
 | .global _ => aa
def AS.put (s : AS) (d : Option Tmp) (v : AV) : AS :=
 match d with
 | some d => { s with tmps := s.tmps.set d v }
 | none => s
def z5 (h : List av) (x : SV) (k : SD → OR) : OR :=
 match x with
 | .fr d => k d
 | .emp (some e) => k e.2.nil
 | .own j v => (match h[j]? with
  | some (.arr _ d ver _) => cond (Nat.beq v ver) (k d) none
  | _ => none)
 | _ => none
def ou (h : List av) (x : SV) (k : SV → List av → OR) : OR :=
 match x with
 | .own j v => (match h[j]? with
  | some (.arr e d ver _) => cond (Nat.beq v ver) (k (.fr d) (h.set j (.arr e d ver true))) none
  | _ => none)
 | .emp (some e) => k (.fr e.2.nil) h
 | x => k x h
def lb (h : List av) : List SV → (List SV → List av → OR) → OR
 | [], k => k [] h
 | x :: l, k => ou h x fun x' h' => lb h' l fun l' h'' => k (x' :: l') h''
def elemOf (e : SK) (l : List SV) (k : SE → OR) : OR :=
 match e, l with
 | .t, [.int .i64 a, .int .i64 b, .fr (.ts l)] => k (.t (.mk a b l))
 | .i, [.int .i64 a] => k (.i a)
 | .ii, [.fr (.is l)] => k (.ii l)
 | .s, [.str x] => k (.s x)
 | .b, [.int .u8 n] => cond (decide (0 ≤ n) && decide (n ≤ 255)) (k (.b (UInt8.ofNat n.toNat))) none
 | _, _ => none
def SD.snoc (d : SD) (e : SE) : Option SD :=
 match d, e with
 | .ts l, .t x => some (.ts (l ++ [x]))
 | .is l, .i x => some (.is (l ++ [x]))
 | .iss l, .ii x => some (.iss (l ++ [x]))
 | .ss l, .s x => some (.ss (l ++ [x]))
 | .bs l, .b x => some (.bs (l ++ [x]))
 | _, _ => none
def la (e : SK) (h : List av) : List (List SV) → SD → (SD → List av → OR) → OR
 | [], d, k => k d h
 | c :: cs, d, k => lb h c fun c' h' => elemOf e c' fun x => (d.snoc x).bind fun d' => la e h' cs d' k
def zE (P : Program) (t : TypeId) (l : List SV) (k : AV → OR) : OR :=
 match uh P t with
 | true => (match l with | c :: _ => k (.v (.one c)) | [] => none)
 | false => (match ni P t with
  | some n => cond (Nat.ble n l.length) (k (.v (.agg (l.take n)))) none
  | none => none)
def qj (P : Program) (t : TypeId) (x : AV) (h : List av) (k : AV → OR) : OR :=
 match x with
 | .v (.one (.ptr j off)) => (match h[j]? with
  | some (.cells l) => zE P t (l.drop off) k
  | _ => none)
 | .v (.one (.ep e off)) => zE P t (e.cells.drop off) k
 | .v (.one (.op j v i off)) => (match h[j]? with
  | some (.arr _ d ver _) => cond (Nat.beq v ver) (d.get i fun e => zE P t (e.cells.drop off) k) none
  | _ => none)
 | _ => none
def JN (l : List SV) (off : Nat) : List SV → List SV
 | [] => l
 | c :: cs => JN (l.set off c) (off + 1) cs
def pC (P : Program) (t : TypeId) (x y : AV) (h : List av) (k : List av → OR) : OR :=
 match (P.info? t).map (·.size) with
 | some m => y.cs.bind fun yc => (match x with
  | .v (.one (.ptr j off)) => (match h[j]? with
   | some (.cells l) => cond (Nat.beq m yc.length && Nat.ble (off + m) l.length) (k (h.set j (.cells (JN l off yc)))) none
   | _ => none)
  | .v (.one (.op j v i 0)) => lb h yc fun c h => (match h[j]? with
   | some (.arr e d ver false) => cond (Nat.beq v ver && Nat.beq m d.kind.size) (elemOf d.kind c fun x => d.set i x fun d' => k (h.set j (.arr e d' ver false))) none
   | _ => none)
  | _ => none)
 | none => none
def F1 (a b : IntKind) : Bool := decide (a = b)
def FW (op : BinOp) (ka : IntKind) (a b : Int) (k : SV → OR) : OR :=
 match op with
 | .add => k (.int ka (ka.wrap (a + b)))
 | .sub => k (.int ka (ka.wrap (a - b)))
 | .mul => k (.int ka (ka.wrap (a * b)))
 | .quo => cond (decide (b = 0)) none (k (.int ka (ka.wrap (a.tdiv b))))
 | .rem => cond (decide (b = 0)) none (k (.int ka (a.tmod b)))
 | .xor => k (.int ka (ka.wrap (BitVec.ofInt ka.bits a ^^^ BitVec.ofInt ka.bits b).toNat))
 | .eql => k (.bool (decide (a = b)))
 | .neq => k (.bool (!decide (a = b)))
 | .lss => k (.bool (decide (a < b)))
 | .leq => k (.bool (decide (a ≤ b)))
 | .gtr => k (.bool (decide (b < a)))
 | .geq => k (.bool (decide (b ≤ a)))
 | _ => none
def Fc (op : BinOp) (a b : ByteArray) (k : SV → OR) : OR :=
 match op with
 | .add => cond (decide (a.size + b.size ≤ 9223372036854775807)) (k (.str (a ++ b))) none
 | .eql => k (.bool (a.toList == b.toList))
 | .neq => k (.bool (!(a.toList == b.toList)))
 | .gtr => k (.bool (!(Op.bytesLess a.toList b.toList || a.toList == b.toList)))
 | _ => none
def C6 (P : Program) (op : BinOp) (t : TypeId) (x y : AV) (k : SV → OR) : OR :=
 match x, y with
 | .v (.one (.int ka a)), .v (.one (.int kb b)) => cond (F1 ka kb) (FW op ka a b k) none
 | .v (.one (.str a)), .v (.one (.str b)) => Fc op a b k
 | .v (.one (.bool a)), .v (.one (.bool b)) => (match P.underlying t with
  | some .bool => (match op with
   | .eql => k (.bool (decide (a = b)))
   | .neq => k (.bool (!decide (a = b)))
   | _ => none)
  | _ => none)
 | _, _ => none
def La (op : UnOp) (x : AV) (k : SV → OR) : OR :=
 match op, x with
 | .not, .v (.one (.bool b)) => k (.bool (!b))
 | .neg, .v (.one (.int ka n)) => k (.int ka (ka.wrap (0 - n)))
 | _, _ => none
def xN (P : Program) (t t' : TypeId) (x : AV) (h : List av) (k : SV → OR) : OR :=
 match x with
 | .v (.one (.int _ n)) => (match P.underlying t, P.underlying t' with
  | some (.int _), some (.int ka) => k (.int ka (ka.wrap n))
  | _, _ => none)
 | .v (.one x) => (match cM P t, P.underlying t' with
  | some (_, .b), some .string => z5 h x fun d => (match d with | .bs l => k (.str ⟨l.toArray⟩) | _ => none)
  | _, _ => none)
 | _ => none
def gf (x : AV) (k : Int → OR) : OR := match x with | .v (.one (.int .i64 n)) => k n | _ => none
def inB (lo hi n : Int) : Bool := decide (0 ≤ lo) && (decide (lo ≤ hi) && decide (hi ≤ n))
def fR (P : Program) (t : TypeId) (x : AV) (lo hi mx : Option AV) (h : List av) (k : SV → List av → OR) : OR :=
 match mx with
 | some mx => cond (cM P t).isSome (gf mx fun m => (match hi, lo with
  | some hi, none => gf hi fun n => cond (decide (m = 0) && decide (n = 0)) (match x with
   | .v (.one (.fr d)) => cond (kindEq (cM P t) d.kind) (k (.emp (cM P t)) h) none
   | .v (.one (.own j v)) => (match h[j]? with
    | some (.arr _ d ver _) => cond (Nat.beq v ver && kindEq (cM P t) d.kind) (k (.emp (cM P t)) h) none
    | _ => none)
   | .v (.one (.emp e)) => (k (.emp (cM P t)) h)
   | _ => none) none
  | some hi, some lo => gf hi fun n => gf lo fun l => cond (decide (m = 0) && (decide (n = 0) && decide (l = 0))) (match x with
   | .v (.one (.fr d)) => cond (kindEq (cM P t) d.kind) (k (.emp (cM P t)) h) none
   | .v (.one (.own j v)) => (match h[j]? with
    | some (.arr _ d ver _) => cond (Nat.beq v ver && kindEq (cM P t) d.kind) (k (.emp (cM P t)) h) none
    | _ => none)
   | .v (.one (.emp e)) => (k (.emp (cM P t)) h)
   | _ => none) none
  | _, _ => none)) none
 | none => (match x with
  | .v (.one (.str a)) => (match P.underlying t with
   | some .string => bounds lo hi a.size fun l n => k (.str (a.extract l.toNat n.toNat)) h
   | _ => none)
  | .v (.one x) => (match cM P t with
   | some e => ou h x fun x' h' => (match x' with
    | .fr d => cond (SK.beq e.2 d.kind) (bounds lo hi d.len fun l n => k (.fr (d.sub l.toNat n.toNat)) h') none
    | _ => none)
   | none => none)
  | _ => none)
where
 kindEq : Option (TypeId × SK) → SK → Bool
  | some a, c => SK.beq a.2 c
  | none, _ => false
 bounds (lo hi : Option AV) (n : Nat) (k : Int → Int → OR) : OR :=
  match lo, hi with
  | none, none => k 0 n
  | some lo, none => gf lo fun l => cond (inB l n n) (k l n) none
  | none, some hi => gf hi fun m => cond (inB 0 m n) (k 0 m) none
  | some lo, some hi => gf lo fun l => gf hi fun m => cond (inB l m n) (k l m) none
def gJ (P : Program) (t : TypeId) (x y : AV) (h : List av) (k : SV → OR) : OR :=
 match cM P t with
 | none => none
 | some e => gf y fun i => cond (decide (0 ≤ i)) (match x with
  | .v (.one (.fr d)) => cond (SK.beq e.2 d.kind) (d.get i.toNat fun x => k (.ep x 0)) none
  | .v (.one (.own j v)) => (match h[j]? with
   | some (.arr _ d ver _) => cond (Nat.beq v ver && SK.beq e.2 d.kind) (cond (decide (i < d.len)) (k (.op j v i.toNat 0)) none) none
   | _ => none)
  | _ => none) none
def DX (P : Program) (t : TypeId) (x : AV) (h : List av) (k : SV → OR) : OR :=
 match x with
 | .v (.one (.str a)) => (match P.underlying t with | some .string => k (.int .i64 (a.size : Int)) | _ => none)
 | .v (.one (.emp _)) => (match cM P t with | some _ => k (.int .i64 0) | none => none)
 | .v (.one x) => (match cM P t with | some _ => z5 h x fun d => k (.int .i64 (d.len : Int)) | none => none)
 | _ => none
def cn (n : Nat) : Bool := decide (n ≤ 1099511627776)
def mw (P : Program) (t : TypeId) (x y : AV) (h : List av) (sl : Nat) (k : SV → List av → OR) : OR :=
 match cM P t with
 | none => none
 | some e => (match y with
  | .v (.one y) => z5 h y fun d' => cond (SK.beq e.2 d'.kind) (match x with
   | .v (.one (.own j v)) => (match h[j]? with
    | some (.arr e' d ver false) => cond (Nat.beq v ver && Nat.beq e.1 e') (d.app d' fun d'' => cond (cn d''.len) (k (.own j (ver + 1)) (h.set j (.arr e' d'' (ver + 1) false))) none) none
    | _ => none)
   | .v (.one (.emp _)) => cond (cn d'.len) (k (.own sl 0) (h.set sl (.arr e.1 d' 0 false))) none
   | _ => none) none
  | _ => none)
def Ft (P : Program) (e : TypeId) (k : SK) : Bool :=
 match oa P e, k with
 | some [.int .i64 a, .int .i64 b, .slice none 0 0], .t => decide (a = 0) && decide (b = 0)
 | some [.int .i64 a], .i => decide (a = 0)
 | some [.string x], .s => decide (x = ByteArray.empty)
 | some [.int .u8 a], .b => decide (a = 0)
 | _, _ => false
def Cv (n : Nat) : SK → Option SD
 | .t => some (.ts (List.replicate n (.mk 0 0 [])))
 | .i => some (.is (List.replicate n 0))
 | .ii => none
 | .s => some (.ss (List.replicate n ByteArray.empty))
 | .b => some (.bs (List.replicate n 0))
def rL (P : Program) (t : TypeId) (x y : AV) (h : List av) (sl : Nat) (k : SV → List av → OR) : OR :=
 gf x fun n => gf y fun m => cond (decide (n = m) && (decide (0 ≤ n) && decide (n ≤ 4194304))) (match cM P t with
  | some e => cond (Ft P e.1 e.2) ((Cv n.toNat e.2).bind fun d => k (.own sl 0) (h.set sl (.arr e.1 d 0 false))) none
  | none => none) none
def qQ (h : List av) (j : Nat) : Bool := match h[j]? with | some (.cells _) => true | _ => false
def yG (h : List av) (j v : Nat) : Bool := match h[j]? with | some (.arr _ _ ver _) => Nat.beq v ver | _ => false
def pr (h : List av) (d : Nat) (v : AV) (k : SV → OR) : OR :=
 match v with
 | .v (.one (.ptr j o)) => cond (qQ h j) (k (.ptr j (o + d))) none
 | .v (.one (.ep e o)) => k (.ep e (o + d))
 | .v (.one (.op j v n o)) => cond (yG h j v) (k (.op j v n (o + d))) none
 | _ => none
def FR (h : List av) (v : AV) (k : SV → OR) : OR :=
 match v with
 | .v (.one (.ptr j o)) => cond (qQ h j) (k (.ptr j o)) none
 | .v (.one (.ep e o)) => k (.ep e o)
 | .v (.one (.op j v n o)) => cond (yG h j v) (k (.op j v n o)) none
 | .v (.one (.fn f l)) => k (.fn f l)
 | _ => none
def pf (P : Program) (t : TypeId) (x y : AV) (k : SV → OR) : OR :=
 match x with
 | .v (.one (.str a)) => gf y fun n => cond (decide (0 ≤ n) && decide (n < a.size)) (match P.underlying t with
    | some .string => k (.int .u8 ((aU a n.toNat).toNat : Int))
    | _ => none) none
 | _ => none
def jJ (x : AV) (i : Nat) (k : AV → OR) : OR := match x with | .tup l => l[i]?.bind fun x => k (.v x) | _ => none
def B4 (mx : Bool) (x y : AV) (k : SV → OR) : OR :=
 match x, y with
 | .v (.one (.int a x)), .v (.one (.int b y)) => cond (F1 a b) (k (.int a (cond mx (max x y) (min x y)))) none
 | _, _ => none
def yg (h : List av) : List AV → Option (List Nat)
 | [] => some []
 | .v (.one (.ptr j 0)) :: l => cond (qQ h j) ((yg h l).map (j :: ·)) none
 | _ => none
end Go.Ab
namespace Go.Ab
open Go Go.Dk
def mT : SV → List Nat
 | .own j _ => [j]
 | .ptr j _ => [j]
 | .op j _ _ _ => [j]
 | .fn _ l => l
 | _ => []
def uW : Option av → List Nat
 | some (.cells l) => l.flatMap mT
 | _ => []
def dA (j : Nat) : List Nat → Bool
 | [] => false
 | i :: l => Nat.beq j i || dA j l
def reach (h : List av) : Nat → List Nat → List Nat → List Nat
 | 0, _, seen => seen
 | _, [], seen => seen
 | n + 1, j :: todo, seen => cond (dA j seen) (reach h n todo seen) (reach h n (uW h[j]? ++ todo) (seen ++ [j]))
def idx (j : Nat) : List Nat → Option Nat
 | [] => none
 | i :: l => cond (Nat.beq j i) (some 0) ((idx j l).map (· + 1))
def idxs (js : List Nat) : List Nat → Option (List Nat)
 | [] => some []
 | j :: l => (idx j js).bind fun i => (idxs js l).map (i :: ·)
def JJ (js : List Nat) : SV → SV
 | .own j v => (match idx j js with | some i => .own i v | none => .any)
 | .ptr j o => (match idx j js with | some i => .ptr i o | none => .any)
 | .op j v i o => (match idx j js with | some j => .op j v i o | none => .any)
 | .fn f l => (match idxs js l with | some l => .fn f l | none => .any)
 | x => x
def K1 (js : List Nat) : V1 → V1 | .one s => .one (JJ js s) | .agg l => .agg (l.map (JJ js))
def LS (js : List Nat) : AV → AV | .v x => .v (K1 js x) | .tup l => .tup (l.map (K1 js))
def Lf (js : List Nat) : av → av | .cells l => .cells (l.map (JJ js)) | o => o
def wQ (js : List Nat) (h : List av) : List av := js.map fun j => Lf js (h.getD j .dead)
def CP : V1 → List Nat | .one s => mT s | .agg l => l.flatMap mT
def oG : AV → List Nat | .v x => CP x | .tup l => l.flatMap CP
def clean : SV → SV
 | .own _ _ => .any
 | .ptr _ _ => .any
 | .op _ _ _ _ => .any
 | .fn _ _ => .any
 | x => x
def kQ (own : Bool) : List SV → List av → Nat → (List SV → List av → List av → OR) → OR
 | [], h, _, k => k [] h []
 | .own j v :: l, h, b, k => (match h[j]? with
  | some (.arr e d ver fz) => cond (Nat.beq v ver) (cond own
     (cond fz none (kQ own l (h.set j .dead) (b + 1) fun cs h os => k (.own b 0 :: cs) h (.arr e d 0 false :: os)))
     (kQ own l (h.set j (.arr e d ver true)) b fun cs h os => k (.fr d :: cs) h os)) none
  | _ => none)
 | .emp (some e) :: l, h, b, k => cond own
    (kQ own l h (b + 1) fun cs h os => k (.own b 0 :: cs) h (.arr e.1 e.2.nil 0 false :: os))
    (kQ own l h b fun cs h os => k (.fr e.2.nil :: cs) h os)
 | .ptr j 0 :: l, h, b, k => (match h[j]? with
  | some (.cells c) => lb h c fun c h => kQ own l (h.set j .dead) (b + 1) fun cs h os => k (.ptr b 0 :: cs) h (.cells (c.map clean) :: os)
  | _ => none)
 | .int a n :: l, h, b, k => kQ own l h b fun cs h os => k (.int a n :: cs) h os
 | .bool x :: l, h, b, k => kQ own l h b fun cs h os => k (.bool x :: cs) h os
 | .str x :: l, h, b, k => kQ own l h b fun cs h os => k (.str x :: cs) h os
 | .fr x :: l, h, b, k => kQ own l h b fun cs h os => k (.fr x :: cs) h os
 | _ :: l, h, b, k => kQ own l h b fun cs h os => k (.any :: cs) h os
def KS (m : Nat) : Nat → List av → (List av → OR) → OR
 | 0, h, k => k []
 | n + 1, h, k => (match h[m - (n + 1)]? with
  | some (.cells c) => lb h c fun c h => KS m n h fun os => k (.cells (c.map clean) :: os)
  | _ => KS m n h fun os => k (.dead :: os))
def tC (own : Bool) : List V1 → List av → Nat → (List V1 → List av → List av → OR) → OR
 | [], h, _, k => k [] h []
 | .one .any :: l, h, b, k => tC own l h b fun vs h os => k (.one .any :: vs) h os
 | .one x :: l, h, b, k => kQ own [x] h b fun c h os => (match c with
  | [x] => tC own l h (b + os.length) fun vs h os' => k (.one x :: vs) h (os ++ os')
  | _ => none)
 | .agg c :: l, h, b, k => kQ own c h b fun c h os => tC own l h (b + os.length) fun vs h os' => k (.agg c :: vs) h (os ++ os')
def JK (P : Program) (s : AS) : List ResultVar → (List V1 → OR) → OR
 | [], k => k []
 | .tmp t :: l, k => (match s.tmps.getD t aa with
  | .v x => JK P s l fun vs => k (x :: vs)
  | _ => none)
 | .cell a t :: l, k => qj P t (s.tmps.getD a aa) s.heap fun v => (match v with
  | .v x => JK P s l fun vs => k (x :: vs)
  | _ => none)
def finish (P : Program) (own : Bool) (fn : Func) (m : Nat) (s : AS) : OR :=
 cond (Nat.ble m s.heap.length) (JK P s fn.results.toList fun vs => tC own vs s.heap m fun vs h os => KS m m h fun ps => some (vs, ps ++ os)) none
def bj (a : IntKind) (l : List SV) (k : Int → List SV → OR) : OR := match l with | .int b n :: l => cond (F1 a b) (k n l) none | _ => none
def oq (l : List SV) (k : Bool → List SV → OR) : OR := match l with | .bool b :: l => k b l | _ => none
def JM (l : List SV) (k : ByteArray → List SV → OR) : OR := match l with | .str x :: l => k x l | _ => none
def tsC (l : List SV) (k : List T → List SV → OR) : OR := match l with | .fr (.ts x) :: l => k x l | _ => none
def isC (l : List SV) (k : List Int → List SV → OR) : OR := match l with | .fr (.is x) :: l => k x l | _ => none
def JP (l : List SV) (k : List (List Int) → List SV → OR) : OR := match l with | .fr (.iss x) :: l => k x l | _ => none
def ssC (l : List SV) (k : List ByteArray → List SV → OR) : OR := match l with | .fr (.ss x) :: l => k x l | _ => none
def bsC (l : List SV) (k : List UInt8 → List SV → OR) : OR := match l with | .fr (.bs x) :: l => k x l | _ => none
def JT (l : List SV) (k : List SV → OR) : OR := match l with | _ :: l => k l | _ => none
def bh (l : List SV) (k : OR) : OR := match l with | [] => k | _ => none
def slC (e : SK) (l : List SV) (k : SD → List SV → OR) : OR :=
 match e with
 | .t => tsC l fun x l => k (.ts x) l
 | .i => isC l fun x l => k (.is x) l
 | .ii => JP l fun x l => k (.iss x) l
 | .s => ssC l fun x l => k (.ss x) l
 | .b => bsC l fun x l => k (.bs x) l
def aw (a : IntKind) (l : List V1) (k : Int → List V1 → OR) : OR := match l with | .one (.int b n) :: l => cond (F1 a b) (k n l) none | _ => none
def ar (l : List V1) (k : Bool → List V1 → OR) : OR := match l with | .one (.bool b) :: l => k b l | _ => none
def mL (l : List V1) (k : ByteArray → List V1 → OR) : OR := match l with | .one (.str x) :: l => k x l | _ => none
def rTs (l : List V1) (k : List T → List V1 → OR) : OR := match l with | .one (.fr (.ts x)) :: l => k x l | _ => none
def rIs (l : List V1) (k : List Int → List V1 → OR) : OR := match l with | .one (.fr (.is x)) :: l => k x l | _ => none
def JG (l : List V1) (k : List (List Int) → List V1 → OR) : OR := match l with | .one (.fr (.iss x)) :: l => k x l | _ => none
def rSs (l : List V1) (k : List ByteArray → List V1 → OR) : OR := match l with | .one (.fr (.ss x)) :: l => k x l | _ => none
def rBs (l : List V1) (k : List UInt8 → List V1 → OR) : OR := match l with | .one (.fr (.bs x)) :: l => k x l | _ => none
def ah (l : List V1) (k : T → List V1 → OR) : OR := match l with | .agg [.int .i64 a, .int .i64 b, .fr (.ts x)] :: l => k (.mk a b x) l | _ => none
def fL (j : Nat) (l : List V1) (k : Int → Int → List V1 → OR) : OR := match l with | .agg [.int .i64 a, .int .i64 b, .own i 0] :: l => cond (Nat.beq i j) (k a b l) none | _ => none
def HY (j : Nat) (l : List V1) (k : List V1 → OR) : OR := match l with | .one (.own i 0) :: l => cond (Nat.beq i j) (k l) none | _ => none
def Hq (j : Nat) (l : List V1) (k : List V1 → OR) : OR := match l with | .one (.ptr i 0) :: l => cond (Nat.beq i j) (k l) none | _ => none
def ai (l : List V1) (k : OR) : OR := match l with | [] => k | _ => none
def rSl (e : SK) (l : List V1) (k : SD → List V1 → OR) : OR :=
 match e with
 | .t => rTs l fun x l => k (.ts x) l
 | .i => rIs l fun x l => k (.is x) l
 | .ii => JG l fun x l => k (.iss x) l
 | .s => rSs l fun x l => k (.ss x) l
 | .b => rBs l fun x l => k (.bs x) l
def ba (o : List av) (k : List SV → List av → OR) : OR := match o with | .cells l :: o => k l o | _ => none
def yI (o : List av) (k : List av → OR) : OR := match o with | _ :: o => k o | _ => none
def cf (e : TypeId) (o : List av) (k : List T → List av → OR) : OR := match o with | .arr e' (.ts x) 0 false :: o => cond (Nat.beq e e') (k x o) none | _ => none
def sf (e : TypeId) (o : List av) (k : List Int → List av → OR) : OR := match o with | .arr e' (.is x) 0 false :: o => cond (Nat.beq e e') (k x o) none | _ => none
def m9 (e : TypeId) (o : List av) (k : List (List Int) → List av → OR) : OR := match o with | .arr e' (.iss x) 0 false :: o => cond (Nat.beq e e') (k x o) none | _ => none
def rQ (e : TypeId) (o : List av) (k : List ByteArray → List av → OR) : OR := match o with | .arr e' (.ss x) 0 false :: o => cond (Nat.beq e e') (k x o) none | _ => none
def sK (e : TypeId) (o : List av) (k : List UInt8 → List av → OR) : OR := match o with | .arr e' (.bs x) 0 false :: o => cond (Nat.beq e e') (k x o) none | _ => none
def LD (e : TypeId × SK) (o : List av) (k : SD → List av → OR) : OR :=
 match e.2 with
 | .t => cf e.1 o fun x o => k (.ts x) o
 | .i => sf e.1 o fun x o => k (.is x) o
 | .ii => m9 e.1 o fun x o => k (.iss x) o
 | .s => rQ e.1 o fun x o => k (.ss x) o
 | .b => sK e.1 o fun x o => k (.bs x) o
def aj (o : List av) (k : OR) : OR := match o with | [] => k | _ => none
def BQ (x : SV) (l : List SV) (k : SV → List SV → OR) : OR :=
 match x with
 | .int a _ => bj a l fun n l => k (.int a n) l
 | .bool _ => oq l fun n l => k (.bool n) l
 | .str _ => JM l fun n l => k (.str n) l
 | .fr d => slC d.kind l fun d l => k (.fr d) l
 | .emp (some e) => slC e.2 l fun d l => k (.fr d) l
 | _ => JT l fun l => k .any l
def uX : List SV → List SV → (List SV → OR) → OR
 | [], l, k => bh l (k [])
 | x :: xs, l, k => BQ x l fun y l => uX xs l fun ys => k (y :: ys)
def uz : List av → List av → (List av → List av → OR) → OR
 | [], o, k => k [] o
 | .cells x :: xs, o, k => ba o fun l o => uX x l fun y => uz xs o fun ys o => k (.cells y :: ys) o
 | _ :: xs, o, k => yI o fun o => uz xs o fun ys o => k (.dead :: ys) o
def JO (P : Program) (own : Bool) (c b : Nat) (t : TypeId) (l : List V1) (o : List av) (k : V1 → List av → List V1 → List av → OR) : OR :=
 match P.underlying t with
 | some (.int a) => aw a l fun n l => k (.one (.int a n)) [] l o
 | some .bool => ar l fun n l => k (.one (.bool n)) [] l o
 | some .string => mL l fun n l => k (.one (.str n)) [] l o
 | some (.slice _) => (match cM P t with
  | some e => cond own (HY c l fun l => LD e o fun d o => k (.one (.own b 0)) [.arr e.1 d 0 false] l o) (rSl e.2 l fun d l => k (.one (.fr d)) [] l o)
  | none => none)
 | some (.struct _) => (match B6 P t with
  | some .t => cond own (fL c l fun x y l => cf t o fun d o => k (.agg [.int .i64 x, .int .i64 y, .own b 0]) [.arr t (.ts d) 0 false] l o)
     (ah l fun x l => k (.agg [.int .i64 x.k, .int .i64 x.n, .fr (.ts x.kids)]) [] l o)
  | _ => none)
 | some (.pointer e) => Hq c l fun l => ba o fun y o => (match Ez P e with
  | some z => uX z y fun y => k (.one (.ptr b 0)) [.cells y] l o
  | none => none)
 | _ => none
def zS (P : Program) (own : Bool) : List TypeId → Nat → Nat → List V1 → List av → (List V1 → List av → OR) → OR
 | [], _, _, l, o, k => ai l (aj o (k [] []))
 | t :: ts, c, b, l, o, k => JO P own c b t l o fun v n l o => zS P own ts (c + n.length) (b + n.length) l o fun vs ns => k (v :: vs) (n ++ ns)
structure Dec where
 own : FuncId → Bool
 ib : FuncId → Bool
abbrev Callee := FuncId → List V1 → List av → OR
def MC : List V1 → AV
 | [x] => .v x
 | l => .tup l
def ix : List Nat → List av → List av → List av
 | j :: js, o :: os, h => ix js os (h.set j o)
 | _, _, h => h
def MF (b : Nat) (os h : List av) : List av := ix (List.range' b os.length) os h
def news (P : Program) (own : Bool) : List TypeId → Nat
 | [] => 0
 | t :: ts => (match P.underlying t with
  | some (.pointer _) => 1
  | some (.slice _) => cond own 1 0
  | some (.struct _) => cond own 1 0
  | _ => 0) + news P own ts
def kE (h : List av) : List V1 → (List V1 → List av → OR) → OR
 | [], k => k [] h
 | .one .any :: l, k => kE h l fun vs h => k (.one .any :: vs) h
 | .one x :: l, k => ou h x fun x h => kE h l fun vs h => k (.one x :: vs) h
 | .agg c :: l, k => lb h c fun c h => kE h l fun vs h => k (.agg c :: vs) h
def v1L : List AV → Option (List V1)
 | [] => some []
 | .v x :: l => (v1L l).map (x :: ·)
 | .tup _ :: _ => none
def A4 : List Nat → Bool
 | [] => true
 | j :: l => !dA j l && A4 l
def F3 (js : List Nat) (n : Nat) : Bool := A4 js && js.all fun j => Nat.blt j n
def rI (P : Program) (F : Callee) (ow : Bool) (f : FuncId) (tys : List TypeId) (sl rm : Nat) (k : AV → List av → OR) (args : List V1) (h : List av) : OR :=
 let js := reach h 64 (args.flatMap CP) []
 cond (F3 js sl) (let hh := wQ js h
  (F f (args.map (K1 js)) hh).bind fun r => uz hh r.2 fun os o => zS P ow tys js.length sl r.1 o fun vs ns =>
   cond (Nat.ble ns.length rm) (k (MC vs) (MF sl ns (ix js os h))) none) none
def xY (P : Program) (F : Callee) (D : Dec) (f : FuncId) (args : List V1) (h : List av) (sl rm : Nat) (k : AV → List av → OR) : OR :=
 match P.funcs[f]? with
 | none => none
 | some fn => cond (xy P f) (cond (D.own f) (rI P F true f fn.resultTypes.toList sl rm k args h) (kE h args (rI P F false f fn.resultTypes.toList sl rm k))) none
def iH (P : Program) (b : Builtin) (args : List AV) (tys : List TypeId) (h : List av) (sl : Nat) (k : AV → List av → OR) : OR :=
 match b, args, tys with
 | .len, [x], [t] => DX P t x h fun v => k (.v (.one v)) h
 | .append, [x, y], [t, t'] => cond (Nat.beq t t') (mw P t x y h sl fun v h => k (.v (.one v)) h) none
 | .max, [x, y], _ => B4 true x y fun v => k (.v (.one v)) h
 | .min, [x, y], _ => B4 false x y fun v => k (.v (.one v)) h
 | _, _, _ => none
def FK : Nat → List (Nat × Operand) → Bool
 | _, [] => true
 | n, p :: l => Nat.beq p.1 n && FK (n + 1) l
def DQ (P : Program) (t : TypeId) : Option (List (Nat × Nat)) := match P.underlying t with
 | some (.struct fs) => fs.toList.mapM fun f => (P.info? f.type).map fun i => (f.offset, i.size)
 | _ => none
def yk (pl : List (Nat × Nat)) : List SV → List (Nat × AV) → Option (List SV)
 | z, [] => some z
 | z, p :: l => pl[p.1]?.bind fun o => p.2.cs.bind fun c => cond (Nat.beq c.length o.2 && Nat.ble (o.1 + o.2) z.length) (yk pl (JN z o.1 c) l) none
def s5 (P : Program) (t : TypeId) (ps : List (Nat × AV)) (k : AV → OR) : OR :=
 (DQ P t).bind fun pl => (Ez P t).bind fun z => (yk pl z ps).bind fun c => k (.v (.agg c))
def gZ (P : Program) (D : Dec) (o : Oper) : Nat :=
 match o.op with
 | .alloc _ | .box .. | .buildSlice .. | .makeSlice .. => 1
 | .call c => (match c.callee with
  | .builtin .append => 1
  | .value (.func f) => (match P.funcs[f]? with | some fn => news P (D.own f) fn.resultTypes.toList | none => 0)
  | _ => 0)
 | _ => 0
def qG (P : Program) (F : Callee) (D : Dec) (o : Oper) (ρ : Operand → AV) (h : List av) (sl : Nat) (k : AV → List av → OR) : OR :=
 match o.op with
 | .move x => k (qq P o.type (ρ x)) h
 | .assign x => k (qq P o.type (ρ x)) h
 | .pick c a b => (match ρ c with | .v (.one (.bool t)) => cond t (k (ρ a) h) (k (ρ b) h) | _ => none)
 | .alloc e => (Ez P e).bind fun z => k (.v (.one (.ptr sl 0))) (h.set sl (.cells z))
 | .box e x => (ρ x).cs.bind fun c => k (.v (.one (.ptr sl 0))) (h.set sl (.cells c))
 | .build t ps => s5 P t (ps.toList.map fun p => (p.1, ρ p.2)) fun v => k v h
 | .buildSlice t n ps => (match cM P t with
  | some e => cond (FK 0 ps.toList && (Nat.beq ps.toList.length n && Nat.ble n 4194304))
   ((csL (ps.toList.map fun p => ρ p.2)).bind fun cs => la e.2 h cs e.2.nil fun d h => k (.v (.one (.own sl 0))) (h.set sl (.arr e.1 d 0 false))) none
  | none => none)
 | .load t x => qj P t (ρ x) h fun v => k v h
 | .store t x y => pC P t (ρ x) (ρ y) h fun h => k aa h
 | .nilCheck x => FR h (ρ x) fun v => k (.v (.one v)) h
 | .binOp op t x y _ => C6 P op t (ρ x) (ρ y) fun v => k (.v (.one v)) h
 | .unOp op t x => La op (ρ x) fun v => k (.v (.one v)) h
 | .convert t t' x => xN P t t' (ρ x) h fun v => k (.v (.one v)) h
 | .makeFunc fn first caps => (match fn, first.toList with
  | .func f, [] => (yg h (caps.toList.map ρ)).bind fun l => k (.v (.one (.fn f l))) h
  | _, _ => none)
 | .makeSlice t x y => rL P t (ρ x) (ρ y) h sl fun v h => k (.v (.one v)) h
 | .slice t x lo hi mx => fR P t (ρ x) (lo.map ρ) (hi.map ρ) (mx.map ρ) h fun v h => k (.v (.one v)) h
 | .fieldAddr t x i => (mb P t i).bind fun d => pr h d (ρ x) fun v => k (.v (.one v)) h
 | .indexAddr t x i => gJ P t (ρ x) (ρ i) h fun v => k (.v (.one v)) h
 | .index t x i => pf P t (ρ x) (ρ i) fun v => k (.v (.one v)) h
 | .extract x i => jJ (ρ x) i fun v => k v h
 | .call c => (match c.callee with
  | .builtin b => iH P b (c.args.toList.map ρ) c.argTypes.toList h sl k
  | .value (.func f) => cond (D.ib f) (match c.args.toList.map ρ with
     | [.v (.one (.str a)), .v (.one (.int .u8 n))] => cond (decide (0 ≤ n) && decide (n ≤ 255)) (k (.v (.one (.int .i64 (LP a (UInt8.ofNat n.toNat))))) h) none
     | _ => none) ((v1L (c.args.toList.map ρ)).bind fun l => xY P F D f l h sl (gZ P D o) k)
  | .value x => (match ρ x with
   | .v (.one (.fn f l)) => (v1L (c.args.toList.map ρ)).bind fun vs => xY P F D f (vs ++ l.map fun j => .one (.ptr j 0)) h sl (gZ P D o) k
   | _ => none)
  | _ => none)
 | _ => none
def kx (b : Bool) : AV := .v (.one (.bool b))
def Iu : AV := .tup []
def BU (ops : List Oper) (s : AS) (g : Option (Nat × Bool)) (yes no : AS → OR) : OR :=
 match g with
 | none => yes s
 | some (j, want) => (match ops[j]?.bind (·.dst) with
  | some d => (match s.tmps.getD d aa with
   | .v (.one (.bool b)) => cond b (cond want (yes (s.put (some d) (kx true))) (no (s.put (some d) (kx true))))
      (cond want (no (s.put (some d) (kx false))) (yes (s.put (some d) (kx false))))
   | .tup [] => no s
   | _ => none)
  | none => none)
noncomputable def same (a b : OR) : OR := by classical exact if a = b then a else none
theorem Ep (a : OR) : same a a = a := by unfold same; exact if_pos rfl
theorem F4 {a b : OR} {r : List V1 × List av} (h : same a b = some r) : a = some r ∧ b = some r := by
 unfold same at h
 split at h
 ·rename_i e; subst e; exact ⟨h, h⟩
 ·cases h
def Mi (P : Program) (o : Oper) (ρ : Operand → AV) : Option Nat :=
 match o.op with
 | .binOp .eql t x (.const (.slice none 0 0)) _ => (match cM P t, ρ x with
  | some _, .v (.one (.fr d)) => some d.len
  | _, _ => none)
 | _ => none
noncomputable def q8 (P : Program) (F : Callee) (D : Dec) (ops : List Oper) : List Oper → Nat → AS → (AS → OR) → OR
 | [], _, s, k => k s
 | o :: l, b, s, k => BU ops s o.guard
    (fun s => match Mi P o s.ev with
     | some m => cond (Nat.beq m 0)
        (same (q8 P F D ops l (b + gZ P D o) (s.put o.dst (kx true)) k) (q8 P F D ops l (b + gZ P D o) (s.put o.dst (kx false)) k))
        (q8 P F D ops l (b + gZ P D o) (s.put o.dst (kx false)) k)
     | none => qG P F D o s.ev s.heap b fun v h => q8 P F D ops l (b + gZ P D o) ({ s with heap := h }.put o.dst v) k)
    (fun s => q8 P F D ops l (b + gZ P D o) (s.put o.dst Iu) k)
def room (P : Program) (D : Dec) : List Oper → Nat
 | [] => 0
 | o :: l => gZ P D o + room P D l
def grow (n : Nat) (s : AS) : AS := { s with heap := s.heap ++ List.replicate n .dead }
def eK (js : List Nat) : Nat → List av → List av
 | _, [] => []
 | i, o :: h => cond (dA i js) o .dead :: eK js (i + 1) h
def kl (js : List Nat) : Nat → List av → List av → List av
 | i, o :: h, o' :: h' => cond (dA i js) o' o :: kl js (i + 1) h h'
 | _, h, _ => h
structure JU where
 i : Nat
 fp : List Nat
 wr : List Nat
def meets (a b : List Nat) : Bool := a.any fun x => dA x b
def ahead (acc : List (List Nat)) (o : Oper) : List Nat :=
 o.after.toList.flatMap fun e => cond (Region.binds .any e) (e.on :: acc.getD e.on []) []
def JI : List Oper → List (List Nat) → List (List Nat)
 | [], acc => acc
 | o :: l, acc => JI l (acc ++ [ahead acc o])
def nR (ops : List Oper) (o : Oper) : List Nat :=
 (o.op.operands.toList.flatMap fun x => match x with | .tmp t => [t] | _ => []) ++
 (match o.guard with
  | some (g, _) => (match ops[g]?.bind (·.dst) with | some d => [d] | none => [])
  | none => [])
def H2 (o : Oper) : List Nat := match o.dst with | some d => [d] | none => []
def wH (ops : List Oper) (x y : Oper) : Bool := !meets (H2 x) (nR ops y) && (!meets (H2 x) (H2 y) && !meets (H2 y) (nR ops x))
def Hv (o : Oper) : Bool := match o.op with | .select .. => false | _ => true
def Bz (an : List (List Nat)) (i : Nat) (o : Oper) : Bool :=
 (o.after.toList.all fun e => cond (Region.binds .any e) (Nat.blt e.on i) true) &&
 (an.getD i []).all fun a => o.after.toList.any fun e => Region.binds .any e && (Nat.beq a e.on || dA a (an.getD e.on []))
def mv (ops : List Oper) (anc : List Nat) (i : Nat) (o : Oper) : List Oper → Nat → Bool
 | [], _ => true
 | x :: l, k => cond (Nat.blt k i) ((dA k anc || wH ops x o) && mv ops anc i o l (k + 1)) true
def xF (ops : List Oper) (an : List (List Nat)) : List Oper → Nat → Bool
 | [], _ => true
 | o :: l, i => Hv o && (Bz an i o && (mv ops (an.getD i []) i o ops 0 && xF ops an l (i + 1)))
def ml (anc : List Nat) (fp wr : List Nat) (d : JU) : Bool := dA d.i anc || (!meets d.wr fp && !meets wr d.fp)
def writes (o : Oper) (fp : List Nat) (b n : Nat) : List Nat :=
 (match o.op with
 | .store .. => fp
 | .buildSlice .. => fp
 | .slice .. => fp
 | .call c => (match c.callee with | .builtin .append => fp | .builtin _ => [] | _ => fp)
 | _ => []) ++ List.range' b n
def oh (h : List av) (fp rf : List Nat) : Bool := rf.all (dA · fp) && fp.all fun j => (uW h[j]?).all (dA · fp)
def refsOf (s : AS) (o : Oper) : List Nat := o.op.operands.toList.flatMap fun x => oG (s.ev x)
def qs (o : Oper) : Bool := match o.op with
 | .move _ => true
 | .assign _ => true
 | .pick .. => true
 | .binOp .. => true
 | .unOp .. => true
 | .build .. => true
 | .index .. => true
 | .extract .. => true
 | _ => false
def Hu (P : Program) (F : Callee) (D : Dec) (ops : List Oper) (an : List (List Nat)) : List Oper → Nat → List JU → Nat → AS → (AS → OR) → OR
 | [], _, _, _, s, k => k s
 | o :: l, i, ds, b, s, k =>
  BU ops s o.guard
   (fun s => cond (qs o) (qG P F D o s.ev [] 0 fun v _ => cond ((oG v).all (dA · (refsOf s o))) (Hu P F D ops an l (i + 1) ds (b + gZ P D o) (s.put o.dst v) k) none)
    (let n := gZ P D o
    let rf := refsOf s o
    let fp0 := reach s.heap 64 rf []
    let fp := fp0 ++ List.range' b n
    let wr := writes o fp b n
    cond (oh s.heap fp rf && (fp0.all (Nat.blt · b) && ds.all (ml (an.getD i []) fp wr))) (qG P F D o s.ev (eK fp 0 s.heap) b fun v h =>
     cond (oh h fp (oG v)) (Hu P F D ops an l (i + 1) (⟨i, fp, wr⟩ :: ds) (b + n) ({ s with heap := kl wr 0 s.heap h }.put o.dst v) k) none) none))
   (fun s => Hu P F D ops an l (i + 1) ds (b + gZ P D o) (s.put o.dst Iu) k)
def jc (live : List Nat) : Nat → List AV → List AV
 | _, [] => []
 | i, v :: l => cond (dA i live) v aa :: jc live (i + 1) l
def JQ (b : Nat) : SV → SV × List av
 | .emp (some e) => (.own b 0, [.arr e.1 e.2.nil 0 false])
 | x => (x, [])
def JR (b : Nat) : List SV → List SV × List av
 | [] => ([], [])
 | x :: l => let (x, o) := JQ b x; let (l, o') := JR (b + o.length) l; (x :: l, o ++ o')
def LN (b : Nat) : AV → AV × List av
 | .v (.one x) => let (x, o) := JQ b x; (.v (.one x), o)
 | .v (.agg l) => let (l, o) := JR b l; (.v (.agg l), o)
 | x => (x, [])
def ny (b : Nat) : List AV → List AV × List av
 | [] => ([], [])
 | x :: l => let (x, o) := LN b x; let (l, o') := ny (b + o.length) l; (x :: l, o ++ o')
def z9 (b : Nat) : List av → List av × List av
 | [] => ([], [])
 | .cells c :: l => let (c, o) := JR b c; let (l, o') := z9 (b + o.length) l; (.cells c :: l, o ++ o')
 | x :: l => let (l, o) := z9 b l; (x :: l, o)
def F7 (h : List av) : SV → SV
 | .own j v => (match h[j]? with
  | some (.arr _ _ ver _) => cond (Nat.beq v ver) (.own j 0) .any
  | _ => .any)
 | .op .. => .any
 | x => x
def L3 (h : List av) : AV → AV
 | .v (.one x) => .v (.one (F7 h x))
 | .v (.agg l) => .v (.agg (l.map (F7 h)))
 | .tup l => aa
def KF (h : List av) : av → av
 | .cells l => .cells (l.map (F7 h))
 | .arr e d _ z => .arr e d 0 z
 | .dead => .dead
def Ct : List Nat → List Nat → Bool
 | [], [] => true
 | a :: l, b :: m => Nat.beq a b && Ct l m
 | _, _ => false
def gc (m : Nat) (s : AS) : AS :=
 let js := reach s.heap 64 (((List.range m).flatMap fun j => uW s.heap[j]?) ++ s.tmps.flatMap oG) (List.range m)
 cond (F3 js s.heap.length && Ct (js.take m) (List.range m)) ⟨s.tmps.map (LS js), wQ js s.heap⟩ s
def rV (s : AS) : AS :=
 let (t, o) := ny s.heap.length s.tmps
 let (h, o') := z9 (s.heap.length + o.length) s.heap
 ⟨t, h ++ (o ++ o')⟩
def JH (s : AS) : AS := ⟨s.tmps.map (L3 s.heap), s.heap.map (KF s.heap)⟩
def n6 (m : Nat) (live : Option (List Nat)) (s : AS) : AS :=
 match live with
 | some live => JH (gc m (rV (gc m { s with tmps := jc live 0 s.tmps })))
 | none => s
def FB : Nat → Nat → List av → (List av → OR) → OR
 | 0, _, h, k => k h
 | n + 1, j, h, k => (match h[j]? with
  | some (.cells c) => lb h c fun c h => FB n (j + 1) (h.set j (.cells c)) k
  | _ => FB n (j + 1) h k)
inductive Ex | normal | exit (id : Nat) | ret
abbrev Aa := Ex → AS → OR
def evL (body : AS → Aa → OR) (nm : AS → AS) : Nat → AS → Aa → OR
 | 0, _, _ => none
 | n + 1, s, k => body s fun e s => match e with
  | .normal => evL body nm n (nm s) k
  | e => k e s
structure Env where
 P : Program
 F : Callee
 D : Dec
 n : Nat
 m : Nat
 live : Nat → Option (List Nat)
def Kn (E : Env) (evb : AS → Aa → OR) (k : Aa) : Aa := fun e s => match e with
 | .normal => evb s k
 | e => k e s
def DA (id : Nat) (k : Aa) : Aa := fun e s => match e with
 | .exit i => cond (Nat.beq i id) (k .normal s) (k (.exit i) s)
 | e => k e s
def AS.GA (s : AS) (c : Operand) (b : Bool) : AS :=
 match c with
 | .tmp t => s.put (some t) (kx b)
 | _ => s
def Jg (E : Env) (ops : List Oper) (s : AS) (k : Aa) : OR :=
 cond (xF ops (JI ops []) ops 0) (Hu E.P E.F E.D ops (JI ops []) ops 0 [] s.heap.length (grow (room E.P E.D ops) s) fun s => k .normal s) none
noncomputable def evC (E : Env) : Nat → Code → AS → Aa → OR
 | _, .skip, s, k => k .normal s
 | _, .region id ops draw, s, k => cond draw
    (match E.live (1000000 + id) with
     | some _ => FB s.heap.length 0 s.heap fun h => Jg E ops.toList ⟨s.tmps, h⟩ k
     | none => Jg E ops.toList s k)
    (q8 E.P E.F E.D ops.toList ops.toList s.heap.length (grow (room E.P E.D ops.toList) s) fun s => k .normal s)
 | i, .seq a b, s, k => evC E i a s (Kn E (evC E i b) k)
 | i, .cond c a b, s, k => (match s.ev c with
  | .v (.one (.bool t)) => cond t (evC E i a (s.GA c true) k) (evC E i b (s.GA c false) k)
  | _ => none)
 | _, .block id b, s, k => evC E id b s (DA id k)
 | i, .loop b, s, k => evL (evC E i b) (n6 E.m (E.live i)) E.n (n6 E.m (E.live i) s) k
 | _, .exit id, s, k => k (.exit id) s
 | _, .ret, s, k => k .ret s
 | _, _, _, _ => none
def Mz (P : Program) (own : Bool) (fn : Func) (m : Nat) : Aa := fun e s => match e with
 | .normal => finish P own fn m s
 | .ret => finish P own fn m s
 | .exit _ => none
structure Say where
 D : Dec
 live : FuncId → Nat → Option (List Nat)
 prim : FuncId → Option (List V1 → OR)
noncomputable def evF (P : Program) (S : Say) : Nat → Callee
 | 0, _, _, _ => none
 | n + 1, f, args, h => match S.prim f with
  | some g => (match h with | [] => g args | _ => none)
  | none => (match P.funcs[f]? with
   | some fn => (match fn.body with
    | some c => evC ⟨P, evF P S n, S.D, n, h.length, S.live f⟩ 0 c ⟨args.map .v ++ List.replicate (fn.ntmps - args.length) aa, h⟩ (Mz P (S.D.own f) fn h.length)
    | none => none)
   | none => none)
end Go.Ab
namespace Go.Ab
open Go Go.Dk
def ax {α β : Type} (R : α → β → Prop) (l : List α) (m : List β) : Prop := l.length = m.length ∧ ∀ (i : Nat) a b, l[i]? = some a → m[i]? = some b → R a b
section
variable {α β γ : Type} {R S : α → β → Prop}
theorem ax.nil : ax R [] [] := ⟨rfl, fun i a b h => by simp at h⟩
theorem ax.cons {a : α} {b : β} {l : List α} {m : List β} (h : R a b) (k : ax R l m) : ax R (a :: l) (b :: m) := by
 refine ⟨by simp [k.1], fun i x y hx hy => ?_⟩
 cases i with
 | zero => simp at hx hy; subst hx hy; exact h
 | succ i => simp at hx hy; exact k.2 i x y hx hy
theorem ax.cons_inv {a : α} {l : List α} {m : List β} (h : ax R (a :: l) m) : ∃ b m', m = b :: m' ∧ R a b ∧ ax R l m' := by
 cases m with
 | nil => simp [ax] at h
 | cons b m => exact ⟨b, m, rfl, h.2 0 a b rfl rfl, by simpa using h.1, fun i x y hx hy => h.2 (i + 1) x y (by simpa using hx) (by simpa using hy)⟩
theorem ax.a7 {m : List β} (h : ax R [] m) : m = [] := by cases m with | nil => rfl | cons b m => simp [ax] at h
theorem ax.mono {l : List α} {m : List β} (h : ax R l m) (hm : ∀ a b, a ∈ l → R a b → S a b) : ax S l m :=
 ⟨h.1, fun i a b ha hb => hm a b (List.mem_of_getElem? ha) (h.2 i a b ha hb)⟩
theorem ax.get {l : List α} {m : List β} (h : ax R l m) {i : Nat} {a : α} (ha : l[i]? = some a) : ∃ b, m[i]? = some b ∧ R a b := by
 have hi : i < l.length := by
  rcases Nat.lt_or_ge i l.length with h' | h'
  ·exact h'
  ·rw [List.getElem?_eq_none h'] at ha; cases ha
 have hb : m[i]? = some (m[i]'(by rw [← h.1]; exact hi)) := List.getElem?_eq_getElem _
 exact ⟨_, hb, h.2 i a _ ha hb⟩
theorem ax.get' {l : List α} {m : List β} (h : ax R l m) {i : Nat} {b : β} (hb : m[i]? = some b) : ∃ a, l[i]? = some a ∧ R a b := by
 have hi : i < m.length := by
  rcases Nat.lt_or_ge i m.length with h' | h'
  ·exact h'
  ·rw [List.getElem?_eq_none h'] at hb; cases hb
 have ha : l[i]? = some (l[i]'(by rw [h.1]; exact hi)) := List.getElem?_eq_getElem _
 exact ⟨_, ha, h.2 i _ b ha hb⟩
theorem ax.set {l : List α} {m : List β} (h : ax R l m) (i : Nat) {a : α} {b : β} (hab : R a b) : ax R (l.set i a) (m.set i b) := by
 refine ⟨by simp [h.1], fun j x y hx hy => ?_⟩
 by_cases hij : i = j
 ·subst hij
  rw [List.getElem?_set_self'] at hx hy
  cases hl : l[i]? with
  | none => simp [hl] at hx
  | some x' =>
   obtain ⟨y', hy', _⟩ := h.get hl
   simp [hl, hy'] at hx hy
   subst hx hy; exact hab
 ·rw [List.getElem?_set_ne hij] at hx hy
  exact h.2 j x y hx hy
theorem ax.append {l l' : List α} {m m' : List β} (h : ax R l m) (k : ax R l' m') : ax R (l ++ l') (m ++ m') := by
 refine ⟨by simp [h.1, k.1], fun i x y hx hy => ?_⟩
 rcases Nat.lt_or_ge i l.length with hi | hi
 ·rw [List.getElem?_append_left hi] at hx
  rw [List.getElem?_append_left (by rw [← h.1]; exact hi)] at hy
  exact h.2 i x y hx hy
 ·rw [List.getElem?_append_right hi] at hx
  rw [List.getElem?_append_right (by rw [← h.1]; exact hi), ← h.1] at hy
  exact k.2 _ x y hx hy
theorem ax.take {l : List α} {m : List β} (h : ax R l m) (n : Nat) : ax R (l.take n) (m.take n) := by
 refine ⟨by simp [h.1], fun i x y hx hy => ?_⟩
 rw [List.getElem?_take] at hx hy
 split at hx
 ·rename_i hi; rw [if_pos hi] at hy; exact h.2 i x y hx hy
 ·cases hx
theorem ax.drop {l : List α} {m : List β} (h : ax R l m) (n : Nat) : ax R (l.drop n) (m.drop n) := by
 refine ⟨by simp [h.1], fun i x y hx hy => ?_⟩
 rw [List.getElem?_drop] at hx hy
 exact h.2 _ x y hx hy
theorem ax.rM {l l' : List α} {m : List β} (h : ax R (l ++ l') m) : ∃ m1 m2, m = m1 ++ m2 ∧ ax R l m1 ∧ ax R l' m2 := by
 refine ⟨m.take l.length, m.drop l.length, (List.take_append_drop _ _).symm, ?_, ?_⟩
 ·have := h.take l.length; simpa using this
 ·have := h.drop l.length; simpa using this
theorem ax.replicate {a : α} {b : β} (h : R a b) (n : Nat) : ax R (List.replicate n a) (List.replicate n b) := by
 refine ⟨by simp, fun i x y hx hy => ?_⟩
 have h1 := List.mem_of_getElem? hx
 have h2 := List.mem_of_getElem? hy
 rw [(List.mem_replicate.1 h1).2, (List.mem_replicate.1 h2).2]; exact h
end
inductive GO | cells (b : Nat) (T : TypeId) (vs : List Value) | arr (ver : Nat) (v : Value) (sz : Nat) (xs : List Value) | gone | fresh
def ca (w : World) (b off : Nat) (xs : List Value) : Prop := ∀ (i : Nat) x, xs[i]? = some x → w.cell? ⟨b, off + i, none⟩ = some x
def SlI (Z : bx) (w : World) (l : List Int) (x : Value) : Prop := ∃ a cap, x = .slice a l.length cap ∧ l.length ≤ cap ∧ l.length ≤ maxLen ∧
 (l = [] ∨ ∃ b off, a = some ⟨b, off, none⟩ ∧ Z b ∧ ca w b off (l.map (.int .i64 ·)))
def aI (Z : bx) (w : World) : SD → List Value → Prop
 | .ts l, xs => ∃ hs : List HT, hs.map HT.er = l ∧ xs = gM hs ∧ ∀ h ∈ hs, Rd Z w h
 | .is l, xs => xs = l.map (.int .i64 ·)
 | .iss l, xs => ax (SlI Z w) l xs
 | .ss l, xs => xs = l.map .string
 | .bs l, xs => xs = l.map fun c => .int .u8 (c.toNat : Int)
def SlR (Z : bx) (w : World) (d : SD) (x : Value) : Prop := ∃ a cap xs, x = .slice a d.len cap ∧ d.len ≤ cap ∧ d.len ≤ maxLen ∧ aI Z w d xs ∧
 (xs = [] ∨ ∃ b off, a = some ⟨b, off, none⟩ ∧ Z b ∧ ca w b off xs)
def ch (Z : bx) (w : World) : SE → List Value → Prop
 | .t x, cs => ∃ h : HT, h.er = x ∧ Rd Z w h ∧ cs = [.int .i64 h.k, .int .i64 h.n, h.sl]
 | .i n, cs => cs = [.int .i64 n]
 | .ii l, cs => ∃ x, cs = [x] ∧ SlI Z w l x
 | .s x, cs => cs = [.string x]
 | .b c, cs => cs = [.int .u8 (c.toNat : Int)]
def EpR (Z : bx) (w : World) (e : SE) (o : Nat) (x : Value) : Prop := ∃ b off cs, x = .pointer (some ⟨b, off + o, none⟩) ∧ Z b ∧ ca w b off cs ∧ ch Z w e cs
def pv (b o : Nat) : Value := .pointer (some ⟨b, o, none⟩)
def RS (G : List GO) (Z : bx) (w : World) : SV → Value → Prop
 | .int k n, x => x = .int k n
 | .bool b, x => x = .bool b
 | .str s, x => x = .string s
 | .emp _, x => ∃ a, x = .slice a 0 0
 | .fr d, x => SlR Z w d x
 | .own j v, x => G[j]? = some .gone ∨ ∃ ver val sz xs, G[j]? = some (.arr ver val sz xs) ∧ v ≤ ver ∧ (v = ver → x = val)
 | .ptr j o, x => G[j]? = some .gone ∨ ∃ b T vs, G[j]? = some (.cells b T vs) ∧ x = pv b o
 | .ep e o, x => EpR Z w e o x
 | .op j v i o, x => G[j]? = some .gone ∨ ∃ ver val sz xs, G[j]? = some (.arr ver val sz xs) ∧ v ≤ ver ∧ (v = ver → ∃ b off n c, val = .slice (some ⟨b, off, none⟩) n c ∧ i < n ∧ x = pv b (off + i * sz + o))
 | .fn f l, x => ∃ bs : List Nat, x = .func (.func f) #[] (bs.map fun b => pv b 0).toArray ∧ ax (fun j b => G[j]? = some .gone ∨ ∃ T vs, G[j]? = some (.cells b T vs)) l bs
 | .nilp, x => x = .pointer none
 | .any, _ => True
def dh (G : List GO) (Z : bx) (w : World) (v : SV) (x : Value) : Prop := RS G Z w v x ∧ uY x = true
def RV1 (G : List GO) (Z : bx) (w : World) : V1 → Value → Prop
 | .one s, x => RS G Z w s x ∧ (s ≠ .any → uY x = true)
 | .agg l, x => ∃ xs : List Value, x = .agg xs.toArray ∧ ax (dh G Z w) l xs
def RV (G : List GO) (Z : bx) (w : World) : AV → Value → Prop
 | .v v, x => RV1 G Z w v x
 | .tup l, x => ∃ xs : List Value, x = .tuple xs.toArray ∧ ax (RV1 G Z w) l xs
def kn (e sz : Nat) (v : Value) (n : Nat) (xs : List Value) : Res :=
 match v with
 | .slice a _ 0 => ⟨fun _ => False, fun _ => n = 0 ∧ xs = [] ∧ v = .slice a 0 0⟩
 | v => Cr e sz v n xs
theorem BV (e sz : Nat) (v : Value) (n : Nat) (xs : List Value) : (kn e sz v n xs).Local := by
 unfold kn
 split
 ·exact fun _ _ _ h => h
 ·exact BO _ _ _ _ _
def kF : av → GO → List Res
 | .cells _, .cells b T vs => [blk b vs T]
 | .arr e d _ false, .arr _ v sz xs => [kn e sz v d.len xs]
 | _, _ => []
def RO (G : List GO) (Z : bx) (w : World) : av → GO → Prop
 | .cells l, .cells b T vs => ax (dh G Z w) l vs
 | .arr e d ver fz, .arr ver' v sz xs => ver = ver' ∧ sz = d.kind.size ∧ cond fz (SlR Z w d v) (aI Z w d xs ∧ ∃ a c, v = .slice a d.len c)
 | .dead, .gone => True
 | .dead, .fresh => True
 | _, _ => False
def a0 : List av → List GO → List Res
 | o :: h, g :: G => kF o g ++ a0 h G
 | _, _ => []
def FZ (s : AS) (G : List GO) (tv : List Value) : Fact := fun Z w => ax (RV G Z w) s.tmps tv ∧ ax (RO G Z w) s.heap G
structure bA (w0 : World) (M Z0 : bx) (b : Nat) (G : List GO) (s : AS) (tv : List Value) (w : World) : Prop where
 st : St w0 M Z0 (a0 s.heap G) (FZ s G tv) w
 fresh : ∀ j, b ≤ j → j < G.length → G[j]? = some .fresh
 mz : ∀ k, M k → Z0 k
section
variable {Z Z' : bx} {w w' : World}
abbrev iA (Z Z' : bx) (w w' : World) : Prop := ∀ b, Z b → b < w.heap.size → Z' b ∧ w'.heap[b]? = w.heap[b]?
theorem ca.lt {b off : Nat} {xs : List Value} (h : ca w b off xs) (hne : xs ≠ []) : b < w.heap.size := by
 cases xs with
 | nil => exact absurd rfl hne
 | cons x xs => exact Dq (h 0 x rfl)
theorem ca.H9 {b off : Nat} {xs : List Value} (h : ca w b off xs) (hk : w'.heap[b]? = w.heap[b]?) : ca w' b off xs :=
 fun i x hx => (lP hk).trans (h i x hx)
theorem SlI.aP (hz : iA Z Z' w w') {l : List Int} {x : Value} (h : SlI Z w l x) : SlI Z' w' l x := by
 obtain ⟨a, cap, hx, h1, h2, h3⟩ := h
 refine ⟨a, cap, hx, h1, h2, ?_⟩
 rcases h3 with h3 | ⟨b, off, ha, hb, hc⟩
 ·exact .inl h3
 ·by_cases hl : l = []
  ·exact .inl hl
  ·have hlt := hc.lt (by simpa using hl)
   exact .inr ⟨b, off, ha, (hz b hb hlt).1, hc.H9 (hz b hb hlt).2⟩
theorem aI.aP (hz : iA Z Z' w w') {d : SD} {xs : List Value} (h : aI Z w d xs) : aI Z' w' d xs := by
 cases d with
 | ts l => obtain ⟨hs, h1, h2, h3⟩ := h; exact ⟨hs, h1, h2, fun t ht => Rd.aP Z Z' w w' hz t (h3 t ht)⟩
 | is l => exact h
 | iss l => exact ax.mono h (fun _ _ _ hh => hh.aP hz)
 | ss l => exact h
 | bs l => exact h
theorem SlR.aP (hz : iA Z Z' w w') {d : SD} {x : Value} (h : SlR Z w d x) : SlR Z' w' d x := by
 obtain ⟨a, cap, xs, hx, h1, h2, h3, h4⟩ := h
 refine ⟨a, cap, xs, hx, h1, h2, h3.aP hz, ?_⟩
 rcases h4 with h4 | ⟨b, off, ha, hb, hc⟩
 ·exact .inl h4
 ·by_cases hl : xs = []
  ·exact .inl hl
  ·have hlt := hc.lt hl
   exact .inr ⟨b, off, ha, (hz b hb hlt).1, hc.H9 (hz b hb hlt).2⟩
theorem ch.aP (hz : iA Z Z' w w') {e : SE} {cs : List Value} (h : ch Z w e cs) : ch Z' w' e cs := by
 cases e with
 | t x => obtain ⟨t, h1, h2, h3⟩ := h; exact ⟨t, h1, Rd.aP Z Z' w w' hz t h2, h3⟩
 | i n => exact h
 | ii l => obtain ⟨x, h1, h2⟩ := h; exact ⟨x, h1, h2.aP hz⟩
 | s x => exact h
 | b c => exact h
theorem ch.ne {e : SE} {cs : List Value} (h : ch Z w e cs) : cs ≠ [] := by
 cases e with
 | t x => obtain ⟨t, h1, h2, h3⟩ := h; simp [h3]
 | i n => simp only [ch] at h; simp [h]
 | ii l => obtain ⟨x, h1, h2⟩ := h; simp [h1]
 | s x => simp only [ch] at h; simp [h]
 | b c => simp only [ch] at h; simp [h]
theorem EpR.aP (hz : iA Z Z' w w') {e : SE} {o : Nat} {x : Value} (h : EpR Z w e o x) : EpR Z' w' e o x := by
 obtain ⟨b, off, cs, hx, hb, hc, hr⟩ := h
 have hlt := hc.lt hr.ne
 exact ⟨b, off, cs, hx, (hz b hb hlt).1, hc.H9 (hz b hb hlt).2, hr.aP hz⟩
theorem RS.aP {G : List GO} (hz : iA Z Z' w w') {s : SV} {x : Value} (h : RS G Z w s x) : RS G Z' w' s x := by
 cases s with
 | fr d => exact SlR.aP hz h
 | ep e o => exact EpR.aP hz h
 | _ => exact h
theorem RV1.aP {G : List GO} (hz : iA Z Z' w w') {v : V1} {x : Value} (h : RV1 G Z w v x) : RV1 G Z' w' v x := by
 cases v with
 | one s => exact ⟨h.1.aP hz, h.2⟩
 | agg l => obtain ⟨xs, hx, hh⟩ := h; exact ⟨xs, hx, hh.mono fun _ _ _ k => ⟨k.1.aP hz, k.2⟩⟩
theorem RV.aP {G : List GO} (hz : iA Z Z' w w') {v : AV} {x : Value} (h : RV G Z w v x) : RV G Z' w' v x := by
 cases v with
 | v v => exact RV1.aP hz h
 | tup l => obtain ⟨xs, hx, hh⟩ := h; exact ⟨xs, hx, hh.mono fun _ _ _ k => k.aP hz⟩
theorem RO.aP {G : List GO} (hz : iA Z Z' w w') {o : av} {g : GO} (h : RO G Z w o g) : RO G Z' w' o g := by
 cases o with
 | cells l => cases g with
  | cells b T vs => exact ax.mono h fun _ _ _ k => ⟨k.1.aP hz, k.2⟩
  | _ => exact h
 | arr e d ver fz => cases g with
  | arr ver' v sz xs =>
   obtain ⟨h1, h2, h3⟩ := h
   refine ⟨h1, h2, ?_⟩
   cases fz with
   | true => exact SlR.aP hz h3
   | false => exact ⟨aI.aP hz h3.1, h3.2⟩
  | _ => exact h
 | dead => cases g <;> exact h
theorem aY (s : AS) (G : List GO) (tv : List Value) : n8 (FZ s G tv) := fun Z Z' w w' hz h =>
 ⟨h.1.mono fun _ _ _ k => k.aP hz, h.2.mono fun _ _ _ k => k.aP hz⟩
end
theorem sD (o : av) (g : GO) : ∀ r ∈ kF o g, r.Local := by
 intro r hr
 unfold kF at hr
 split at hr
 ·rw [List.mem_singleton] at hr; subst hr; exact vj _ _ _
 ·rw [List.mem_singleton] at hr; subst hr; exact BV _ _ _ _ _
 ·cases hr
theorem cU (g : GO) : kF .dead g = [] := by cases g <;> rfl
theorem dH : ∀ (h : List av) (G : List GO) (j : Nat) {o : av} {g : GO}, h[j]? = some o → G[j]? = some g → (a0 h G).Perm (kF o g ++ a0 (h.set j .dead) (G.set j .gone))
 | [], _, j, o, g, hj, _ => by simp at hj
 | _ :: _, [], j, o, g, _, gj => by simp at gj
 | x :: h, y :: G, 0, o, g, hj, gj => by
  simp only [List.getElem?_cons_zero, Option.some.injEq] at hj gj
  subst hj gj
  simp only [List.set_cons_zero, a0, cU, List.nil_append]
  exact List.Perm.refl _
 | x :: h, y :: G, j + 1, o, g, hj, gj => by
  simp only [List.getElem?_cons_succ] at hj gj
  simp only [List.set_cons_succ, a0]
  have := (dH h G j hj gj).append_left (kF x y)
  refine this.trans ?_
  rw [← List.append_assoc, ← List.append_assoc]
  exact List.perm_append_comm.append_right _
theorem yT {h : List av} {G : List GO} {j : Nat} (o : av) (g : GO) (hj : j < h.length) (gj : j < G.length) : (kF o g ++ a0 (h.set j .dead) (G.set j .gone)).Perm (a0 (h.set j o) (G.set j g)) := by
 have := dH (h.set j o) (G.set j g) j (o := o) (g := g) (by simp [hj]) (by simp [gj])
 rw [List.set_set, List.set_set] at this
 exact this.symm
theorem bL : ∀ {h h' : List av} {G G' : List GO}, h.length = G.length → a0 (h ++ h') (G ++ G') = a0 h G ++ a0 h' G'
 | [], _, [], _, _ => rfl
 | x :: h, h', y :: G, G', hl => by simp only [List.cons_append, a0]; rw [bL (by simpa using hl), List.append_assoc]
 | [], _, _ :: _, _, hl => by simp at hl
 | _ :: _, _, [], _, hl => by simp at hl
theorem xl : ∀ (n : Nat) (G : List GO), a0 (List.replicate n .dead) G = []
 | 0, _ => rfl
 | n + 1, [] => rfl
 | n + 1, g :: G => by rw [List.replicate_succ, a0, cU, xl n G]; rfl
theorem _root_.Go.Dk.St.sub {w0 w : World} {M Z0 : bx} {L L' : List Res} {φ : Fact} (h : St w0 M Z0 L φ w) (hs : L'.Sublist L) : St w0 M Z0 L' φ w :=
 ⟨h.ext, fun r hr => h.own r (hs.subset hr), fun r hr => h.loc r (hs.subset hr), fun r hr => h.key r (hs.subset hr), h.dis.sublist hs, h.stab,
  h.stab _ _ w w (fun b hz _ => ⟨⟨hz.1, fun r hr => hz.2 r (hs.subset hr)⟩, rfl⟩) h.per⟩
theorem _root_.Go.Dk.St.kW {w0 w : World} {M Z0 : bx} {L : List Res} {φ ψ : Fact} (h : St w0 M Z0 L φ w) (hs : n8 ψ) (hp : φ (kr w0 Z0 L) w → ψ (kr w0 Z0 L) w) : St w0 M Z0 L ψ w :=
 ⟨h.ext, h.own, h.loc, h.key, h.dis, hs, hp h.per⟩
def Up (G G' : List GO) : Prop := ∀ (j : Nat),
 (G[j]? = some .gone → G'[j]? = some .gone) ∧
 (∀ b T vs, G[j]? = some (.cells b T vs) → G'[j]? = some .gone ∨ ∃ T' vs', G'[j]? = some (.cells b T' vs')) ∧
 (∀ ver val sz xs, G[j]? = some (.arr ver val sz xs) → G'[j]? = some .gone ∨ ∃ ver' val' xs', G'[j]? = some (.arr ver' val' sz xs') ∧ (ver < ver' ∨ (ver = ver' ∧ val = val')))
theorem Up.refl (G : List GO) : Up G G := fun j => ⟨id, fun b T vs h => .inr ⟨T, vs, h⟩, fun ver val sz xs h => .inr ⟨ver, val, xs, h, .inr ⟨rfl, rfl⟩⟩⟩
theorem Up.trans {G G' G'' : List GO} (h : Up G G') (k : Up G' G'') : Up G G'' := by
 intro j
 refine ⟨fun hh => (k j).1 ((h j).1 hh), fun b T vs hh => ?_, fun ver val sz xs hh => ?_⟩
 ·rcases (h j).2.1 b T vs hh with h1 | ⟨T', vs', h1⟩
  ·exact .inl ((k j).1 h1)
  ·exact (k j).2.1 b T' vs' h1
 ·rcases (h j).2.2 ver val sz xs hh with h1 | ⟨ver', val', xs', h1, h2⟩
  ·exact .inl ((k j).1 h1)
  ·rcases (k j).2.2 ver' val' sz xs' h1 with h3 | ⟨ver'', val'', xs'', h3, h4⟩
   ·exact .inl h3
   ·refine .inr ⟨ver'', val'', xs'', h3, ?_⟩
    rcases h2 with h2 | ⟨rfl, rfl⟩
    ·rcases h4 with h4 | ⟨rfl, rfl⟩
     ·exact .inl (by omega)
     ·exact .inl h2
    ·exact h4
theorem Up.set {G : List GO} {j : Nat} {g : GO} (h : ∀ g0, G[j]? = some g0 → match g0, g with
   | .fresh, _ => True
   | _, .gone => True
   | .cells b _ _, .cells b' _ _ => b = b'
   | .arr ver val sz _, .arr ver' val' sz' _ => sz = sz' ∧ (ver < ver' ∨ (ver = ver' ∧ val = val'))
   | _, _ => False) : Up G (G.set j g) := by
 intro i
 by_cases hij : j = i
 ·subst hij
  cases hg : G[j]? with
  | none => exact ⟨nofun, nofun, nofun⟩
  | some g0 =>
   have hlt : j < G.length := by
    rcases Nat.lt_or_ge j G.length with h' | h'
    ·exact h'
    ·rw [List.getElem?_eq_none h'] at hg; cases hg
   have hs : (G.set j g)[j]? = some g := by simp [hlt]
   have hh := h g0 hg
   refine ⟨fun e => ?_, fun b T vs e => ?_, fun ver val sz xs e => ?_⟩
   ·obtain rfl := Option.some.inj e; rw [hs]; cases g <;> first | rfl | exact hh.elim
   ·obtain rfl := Option.some.inj e; rw [hs]
    cases g with
    | gone => exact .inl rfl
    | cells b' T' vs' => have hh : b = b' := hh; subst hh; exact .inr ⟨T', vs', rfl⟩
    | _ => exact hh.elim
   ·obtain rfl := Option.some.inj e; rw [hs]
    cases g with
    | gone => exact .inl rfl
    | arr ver' val' sz' xs' => obtain ⟨rfl, hh⟩ := hh; exact .inr ⟨ver', val', xs', rfl, hh⟩
    | _ => exact hh.elim
 ·rw [List.getElem?_set_ne hij]
  exact ⟨id, fun b T vs h => .inr ⟨T, vs, h⟩, fun ver val sz xs h => .inr ⟨ver, val, xs, h, .inr ⟨rfl, rfl⟩⟩⟩
theorem Up.append (G N : List GO) : Up G (G ++ N) := by
 intro j
 have : ∀ g, G[j]? = some g → (G ++ N)[j]? = some g := fun g h => by
  rcases Nat.lt_or_ge j G.length with h' | h'
  ·rw [List.getElem?_append_left h']; exact h
  ·rw [List.getElem?_eq_none h'] at h; cases h
 exact ⟨fun h => this _ h, fun b T vs h => .inr ⟨T, vs, this _ h⟩, fun ver val sz xs h => .inr ⟨ver, val, xs, this _ h, .inr ⟨rfl, rfl⟩⟩⟩
section
variable {G G' : List GO} {Z : bx} {w : World}
theorem RS.up (h : Up G G') {s : SV} {x : Value} (k : RS G Z w s x) : RS G' Z w s x := by
 cases s with
 | own j v =>
  rcases k with k | ⟨ver, val, sz, xs, hg, hv, he⟩
  ·exact .inl ((h j).1 k)
  ·rcases (h j).2.2 _ _ _ _ hg with h1 | ⟨ver', val', xs', h1, h2⟩
   ·exact .inl h1
   ·refine .inr ⟨ver', val', sz, xs', h1, ?_⟩
    rcases h2 with h2 | ⟨rfl, rfl⟩
    ·exact ⟨by omega, fun e => by omega⟩
    ·exact ⟨hv, he⟩
 | ptr j o =>
  rcases k with k | ⟨b, T, vs, hg, he⟩
  ·exact .inl ((h j).1 k)
  ·rcases (h j).2.1 _ _ _ hg with h1 | ⟨T', vs', h1⟩
   ·exact .inl h1
   ·exact .inr ⟨b, T', vs', h1, he⟩
 | op j v i o =>
  rcases k with k | ⟨ver, val, sz, xs, hg, hv, he⟩
  ·exact .inl ((h j).1 k)
  ·rcases (h j).2.2 _ _ _ _ hg with h1 | ⟨ver', val', xs', h1, h2⟩
   ·exact .inl h1
   ·refine .inr ⟨ver', val', sz, xs', h1, ?_⟩
    rcases h2 with h2 | ⟨rfl, rfl⟩
    ·exact ⟨by omega, fun e => by omega⟩
    ·exact ⟨hv, he⟩
 | fn f l =>
  obtain ⟨bs, hx, hh⟩ := k
  refine ⟨bs, hx, hh.mono fun j b _ hjb => ?_⟩
  rcases hjb with h1 | ⟨T, vs, h1⟩
  ·exact .inl ((h j).1 h1)
  ·rcases (h j).2.1 _ _ _ h1 with h2 | ⟨T', vs', h2⟩
   ·exact .inl h2
   ·exact .inr ⟨T', vs', h2⟩
 | _ => exact k
theorem RV1.up (h : Up G G') {s : V1} {x : Value} (k : RV1 G Z w s x) : RV1 G' Z w s x := by
 cases s with
 | one s => exact ⟨k.1.up h, k.2⟩
 | agg l => obtain ⟨xs, hx, hh⟩ := k; exact ⟨xs, hx, hh.mono fun _ _ _ k => ⟨k.1.up h, k.2⟩⟩
theorem RV.up (h : Up G G') {s : AV} {x : Value} (k : RV G Z w s x) : RV G' Z w s x := by
 cases s with
 | v s => exact RV1.up h k
 | tup l => obtain ⟨xs, hx, hh⟩ := k; exact ⟨xs, hx, hh.mono fun _ _ _ k => k.up h⟩
theorem RO.up (h : Up G G') {o : av} {g : GO} (k : RO G Z w o g) : RO G' Z w o g := by
 cases o with
 | cells l => cases g with
  | cells b T vs => exact ax.mono k fun _ _ _ k => ⟨k.1.up h, k.2⟩
  | _ => exact k
 | arr e d ver fz => cases g <;> exact k
 | dead => cases g <;> exact k
end
end Go.Ab
end
section
namespace Go.Ab
open Go Go.Dk
theorem cD {b : Bool} {x y : OR} {r} (h : cond b x y = some r) : (b = true ∧ x = some r) ∨ (b = false ∧ y = some r) := by cases b <;> simp_all
theorem au {b : Bool} {x : OR} {r} (h : cond b x none = some r) : b = true ∧ x = some r := by cases b <;> simp_all
theorem nk {b : Bool} {x : OR} {r} (h : cond b none x = some r) : b = false ∧ x = some r := by cases b <;> simp_all
theorem bind_some {α : Type} {o : Option α} {k : α → OR} {r} (h : o.bind k = some r) : ∃ a, o = some a ∧ k a = some r := by cases o <;> simp_all
theorem uG {a b : IntKind} (h : F1 a b = true) : a = b := by simpa [F1] using h
section
variable {P : Program} {G : List GO} {Z : bx} {w : World}
theorem iB {k : IntKind} {n : Int} {x : Value} (h : RV G Z w (.v (.one (.int k n))) x) : x = .int k n := h.1
theorem dq {b : Bool} {x : Value} (h : RV G Z w (.v (.one (.bool b))) x) : x = .bool b := h.1
theorem mR {b : ByteArray} {x : Value} (h : RV G Z w (.v (.one (.str b))) x) : x = .string b := h.1
theorem dh.rv {v : SV} {x : Value} (h : dh G Z w v x) : RV G Z w (.v (.one v)) x := ⟨h.1, fun _ => h.2⟩
theorem uC (k : Option (TypeId × SK)) (v : Value) : RS G Z w (Jw k v) v := by
 unfold Jw
 split <;> first | rfl | trivial | exact ⟨none, rfl⟩
theorem Cz (k : Option (TypeId × SK)) (v : Value) : Jw k v ≠ .any → uY v = true := by
 unfold Jw
 split <;> intro h <;> first | rfl | exact absurd rfl h
theorem mH : ∀ (ks : List (Option (TypeId × SK))) (vs : List Value), (∀ v ∈ vs, uY v = true) → ax (dh G Z w) (D2 ks vs) vs
 | _, [], _ => by cases ‹List (Option (TypeId × SK))› <;> exact ax.nil
 | [], v :: vs, h => ax.cons ⟨uC _ _, h v (by simp)⟩ (mH [] vs fun u hu => h u (by simp [hu]))
 | k :: ks, v :: vs, h => ax.cons ⟨uC _ _, h v (by simp)⟩ (mH ks vs fun u hu => h u (by simp [hu]))
theorem fT (x : Value) : RV G Z w aa x := ⟨trivial, fun h => absurd rfl h⟩
theorem y7 (v : Value) : RV G Z w (AV.ofValue v) v := by
 unfold AV.ofValue
 split
 ·rename_i cs
  cases hc : cs.toList.all uY with
  | true => exact ⟨cs.toList, by simp, mH _ _ (fun v hv => List.all_eq_true.1 hc v hv)⟩
  | false => exact fT _
 ·exact fT _
 ·exact ⟨uC _ _, Cz _ _⟩
theorem mg : ∀ (ks : List (Option (TypeId × SK))) (l : List SV) (xs : List Value), ax (dh G Z w) l xs → ax (dh G Z w) (qq.go ks l) xs
 | [], l, xs, h => by unfold qq.go; exact h
 | k :: ks, [], xs, h => by unfold qq.go; exact h
 | k :: ks, x :: l, xs, h => by
  obtain ⟨y, ys, rfl, h1, h2⟩ := h.cons_inv
  have ih := mg ks l ys h2
  cases x with
  | emp e => cases e with
   | none => exact ax.cons h1 ih
   | some e => exact ax.cons h1 ih
  | _ => exact ax.cons h1 ih
theorem rR (t : TypeId) {v : AV} {x : Value} (h : RV G Z w v x) : RV G Z w (qq P t v) x := by
 unfold qq
 split
 ·exact ⟨h.1, fun _ => h.2 nofun⟩
 ·obtain ⟨xs, hx, hh⟩ := h
  exact ⟨xs, hx, mg _ _ _ hh⟩
 ·exact h
variable {ρ : Operand → Value} {x y : Operand} {d : Option Tmp} {ty t t' : TypeId} {pos : String} {aft : Array Edge} {gd : Option (Nat × Bool)} {vx vy : AV} {r : List V1 × List av}
theorem eH (k : IntKind) (n : Int) : dh G Z w (.int k n) (.int k n) := ⟨rfl, rfl⟩
theorem dL (b : Bool) : dh G Z w (.bool b) (.bool b) := ⟨rfl, rfl⟩
theorem zO (b : ByteArray) : dh G Z w (.str b) (.string b) := ⟨rfl, rfl⟩
theorem yS {op : BinOp} {ka : IntKind} {a b : Int} {k : SV → OR} (hx : ρ x = .int ka a) (hy : ρ y = .int ka b) (h : FW op ka a b k = some r) :
   ∃ v X, k v = some r ∧ (execOp ρ ⟨d, .binOp op t x y t', ty, pos, aft, gd⟩).run P w = .ok (.value X) w ∧ dh G Z w v X := by
 cases op <;> simp only [FW] at h
 case add => exact ⟨_, _, h, by simp [go_sem, execOp, hx, hy, eqGuard, binOp, Op.intArith], eH _ _⟩
 case sub => exact ⟨_, _, h, by simp [go_sem, execOp, hx, hy, eqGuard, binOp, Op.intArith], eH _ _⟩
 case mul => exact ⟨_, _, h, by simp [go_sem, execOp, hx, hy, eqGuard, binOp, Op.intArith], eH _ _⟩
 case quo =>
  obtain ⟨hb, h⟩ := nk h
  have hb : b ≠ 0 := by simpa using hb
  exact ⟨_, _, h, by simp [go_sem, execOp, hx, hy, eqGuard, binOp, Op.intDiv, hb], eH _ _⟩
 case rem =>
  obtain ⟨hb, h⟩ := nk h
  have hb : b ≠ 0 := by simpa using hb
  exact ⟨_, _, h, by simp [go_sem, execOp, hx, hy, eqGuard, binOp, Op.intDiv, hb], eH _ _⟩
 case xor => exact ⟨_, _, h, by simp [go_sem, execOp, hx, hy, eqGuard, binOp, Op.intBits], eH _ _⟩
 case eql => exact ⟨_, _, h, by simp [go_sem, execOp, hx, hy, eqGuard, binOp, Op.intCmp]; rfl, dL _⟩
 case neq => exact ⟨_, _, h, by simp [go_sem, execOp, hx, hy, eqGuard, binOp, Op.intCmp]; rfl, dL _⟩
 case lss => exact ⟨_, _, h, by simp [go_sem, execOp, hx, hy, eqGuard, binOp, Op.intCmp], dL _⟩
 case leq => exact ⟨_, _, h, by simp [go_sem, execOp, hx, hy, eqGuard, binOp, Op.intCmp], dL _⟩
 case gtr => exact ⟨_, _, h, by simp [go_sem, execOp, hx, hy, eqGuard, binOp, Op.intCmp], dL _⟩
 case geq => exact ⟨_, _, h, by simp [go_sem, execOp, hx, hy, eqGuard, binOp, Op.intCmp], dL _⟩
 all_goals cases h
theorem yA {op : BinOp} {a b : ByteArray} {k : SV → OR} (hx : ρ x = .string a) (hy : ρ y = .string b) (h : Fc op a b k = some r) :
   ∃ v X, k v = some r ∧ (execOp ρ ⟨d, .binOp op t x y t', ty, pos, aft, gd⟩).run P w = .ok (.value X) w ∧ dh G Z w v X := by
 cases op <;> simp only [Fc] at h
 case add =>
  obtain ⟨hb, h⟩ := au h
  exact ⟨_, _, h, (Lh (S := fun _ => True) hx hy (by simpa using hb)).out w trivial, zO _⟩
 case eql => exact ⟨_, _, h, (Kl (S := fun _ => True) hx hy).out w trivial, dL _⟩
 case neq => exact ⟨_, _, h, (K9 (S := fun _ => True) hx hy).out w trivial, dL _⟩
 case gtr => exact ⟨_, _, h, by simp [go_sem, execOp, hx, hy, eqGuard, binOp, Op.stringOp], dL _⟩
 all_goals cases h
theorem zj {op : BinOp} {k : SV → OR} (hx : RV G Z w vx (ρ x)) (hy : RV G Z w vy (ρ y)) (h : C6 P op t vx vy k = some r) :
   ∃ v X, k v = some r ∧ (execOp ρ ⟨d, .binOp op t x y t', ty, pos, aft, gd⟩).run P w = .ok (.value X) w ∧ dh G Z w v X := by
 unfold C6 at h
 split at h
 ·obtain ⟨hk, h'⟩ := au h
  obtain rfl := uG hk
  exact yS (iB hx) (iB hy) h'
 ·exact yA (mR hx) (mR hy) h
 ·split at h
  ·rename_i hb
   split at h
   ·exact ⟨_, _, h, (Lw (S := fun _ => True) (dq hx) (dq hy) hb).out w trivial, dL _⟩
   ·exact ⟨_, _, h, (KB (S := fun _ => True) (dq hx) (dq hy) hb).out w trivial, dL _⟩
   ·cases h
  ·cases h
 ·cases h
theorem Ch {op : UnOp} {k : SV → OR} (hx : RV G Z w vx (ρ x)) (h : La op vx k = some r) :
   ∃ v X, k v = some r ∧ (execOp ρ ⟨d, .unOp op t x, ty, pos, aft, gd⟩).run P w = .ok (.value X) w ∧ dh G Z w v X := by
 unfold La at h
 split at h
 ·exact ⟨_, _, h, by simp [go_sem, execOp, (dq hx), Op.unary], dL _⟩
 ·exact ⟨_, _, h, by simp [go_sem, execOp, (iB hx), Op.unary, Op.intArith], eH _ _⟩
 ·cases h
theorem bS {v : AV} {X : Value} {k : Int → OR} (h : gf v k = some r) (hx : RV G Z w v X) : ∃ n, X = .int .i64 n ∧ k n = some r := by
 unfold gf at h
 split at h
 ·exact ⟨_, (iB hx), h⟩
 ·cases h
theorem SlR.val {D : SD} {X : Value} (h : SlR Z w D X) : ∃ a c, X = .slice a D.len c := by obtain ⟨a, c, _, hx, _⟩ := h; exact ⟨a, c, hx⟩
theorem SK.size_pos (k : SK) : 0 < k.size := by cases k <;> decide
theorem gG {e : TypeId} {k : SK} (h : B6 P e = some k) : Ek P e = some k ∧ ∃ i z, P.info? e = some i ∧ i.zero = some z ∧ i.size = k.size ∧ z.cells.size = k.size ∧ i.bytes ≤ 64 := by
 unfold B6 at h
 cases h0 : Ek P e with
 | none => simp [h0] at h
 | some k' =>
  simp only [h0, Option.bind_some] at h
  cases hs : Fk P e k' with
  | false => simp [hs] at h
  | true =>
   simp only [hs, cond_true, Option.some.injEq] at h
   subst h
   refine ⟨rfl, ?_⟩
   unfold Fk at hs
   split at hs
   ·rename_i i hi
    split at hs
    ·rename_i z hz
     simp only [Bool.and_eq_true, Nat.beq_eq, Nat.ble_eq] at hs
     exact ⟨i, z, hi, hz, hs.1, hs.2.1, hs.2.2⟩
    ·cases hs
   ·cases hs
theorem gK {t : TypeId} {e : TypeId × SK} (h : cM P t = some e) : P.underlying t = some (.slice e.1) ∧ B6 P e.1 = some e.2 := by
 unfold cM at h
 split at h
 ·rename_i e' hu
  cases hk : B6 P e' with
  | none => simp [hk] at h
  | some k => simp only [hk, Option.map_some, Option.some.injEq] at h; subst h; exact ⟨hu, hk⟩
 ·cases h
theorem oJ {t : TypeId} {e : TypeId × SK} (h : cM P t = some e) : ll P t = some e.2.size := by
 obtain ⟨h1, h2⟩ := gK h
 obtain ⟨_, i, z, hi, _, hs, _⟩ := gG h2
 unfold ll
 simp only [h1, hi, hs]
theorem SK.beq_eq {a c : SK} (h : SK.beq a c = true) : a = c := by cases a <;> cases c <;> first | rfl | cases h
theorem Dy {hs : List HT} {i : Nat} {h : HT} (hi : hs[i]? = some h) : (gM hs)[i * 3]? = some (.int .i64 h.k) ∧ (gM hs)[i * 3 + 1]? = some (.int .i64 h.n) ∧ (gM hs)[i * 3 + 2]? = some h.sl := by
 induction hs generalizing i with
 | nil => simp at hi
 | cons x hs ih =>
  rw [bR]
  cases i with
  | zero => simp at hi; subst hi; exact ⟨rfl, rfl, rfl⟩
  | succ i =>
   have := ih (i := i) (by simpa using hi)
   rw [show (i + 1) * 3 = i * 3 + 1 + 1 + 1 by omega]
   exact this
theorem xI {b : Nat} : ∀ {ts : List HT} {off : Nat}, RdL Z w b off ts → ca w b off (gM ts)
 | [], _, _, i, x, hx => by simp [gT] at hx
 | t :: ts, off, h, i, x, hx => by
  simp only [RdL] at h
  rw [bR] at hx
  match i, hx with
  | 0, hx => simp at hx; subst hx; simpa using h.1.1
  | 1, hx => simp at hx; subst hx; exact h.1.2.1
  | 2, hx => simp at hx; subst hx; exact h.1.2.2
  | i + 3, hx =>
   have := xI h.2.2 i x (by simpa using hx)
   rw [show off + (i + 3) = off + 3 + i by omega]; exact this
theorem Bv {b : Nat} : ∀ {ts : List HT} {off : Nat}, RdL Z w b off ts → ∀ t ∈ ts, Rd Z w t
 | [], _, _, t, ht => by cases ht
 | u :: ts, off, h, t, ht => by
  simp only [RdL] at h
  rcases List.mem_cons.1 ht with rfl | ht
  ·exact h.2.1
  ·exact Bv h.2.2 t ht
theorem Mk {t : HT} (h : Rd Z w t) : SlR Z w (.ts t.er.kids) t.sl := by
 cases t with | mk k n a cap kids =>
 simp only [Rd] at h
 obtain ⟨h1, h2, h3⟩ := h
 have hk : (HT.mk k n a cap kids).er.kids = kids.map HT.er := HT.Jo _
 refine ⟨a, cap, gM kids, ?_, ?_, ?_, ?_, ?_⟩
 ·simp [HT.sl, HT.a, HT.kids, HT.cap, hk, SD.len]
 ·simpa [hk, SD.len] using h2
 ·simpa [hk, SD.len, maxLen] using h3
 ·rcases h1 with rfl | ⟨b, off, ha, hb, hl⟩
  ·exact ⟨[], by simp [hk], rfl, nofun⟩
  ·exact ⟨kids, hk.symm, rfl, Bv hl⟩
 ·rcases h1 with rfl | ⟨b, off, ha, hb, hl⟩
  ·exact .inl rfl
  ·exact .inr ⟨b, off, ha, hb, xI hl⟩
theorem Mb {l : List T} {X : Value} (h : SlR Z w (.ts l) X) (k n : Int) : ∃ t : HT, t.er = .mk k n l ∧ Rd Z w t ∧ t.sl = X ∧ t.k = k ∧ t.n = n := by
 obtain ⟨a, cap, xs, hx, h1, h2, ⟨hs, rfl, rfl, hr⟩, h4⟩ := h
 refine ⟨.mk k n a cap hs, by rw [HT.Ml]; rfl, ?_, ?_, rfl, rfl⟩
 ·simp only [Rd]
  refine ⟨?_, by simpa [SD.len] using h1, by simpa [SD.len, maxLen] using h2⟩
  rcases h4 with h4 | ⟨b, off, ha, hb, hc⟩
  ·left
   cases hs with
   | nil => rfl
   | cons t ts => rw [bR] at h4; cases h4
  ·exact .inr ⟨b, off, ha, hb, n9 hs off (fun j u hj => hc j u hj) hr⟩
 ·rw [hx]; simp [HT.sl, HT.a, HT.kids, HT.cap, SD.len]
theorem aI.length {D : SD} {xs : List Value} (h : aI Z w D xs) : xs.length = D.len * D.kind.size := by
 cases D with
 | ts l => obtain ⟨hs, rfl, rfl, _⟩ := h; rw [xj]; simp [SD.len, SD.kind, SK.size]
 | is l => simp only [aI] at h; subst h; simp [SD.len, SD.kind, SK.size]
 | iss l => have := ax.mono h (fun _ _ _ h => h) |>.1; simp [SD.len, SD.kind, SK.size, this]
 | ss l => simp only [aI] at h; subst h; simp [SD.len, SD.kind, SK.size]
 | bs l => simp only [aI] at h; subst h; simp [SD.len, SD.kind, SK.size]
theorem aF {α : Type} {l : List α} {i : Nat} {a : α} (h : l[i]? = some a) : i < l.length := by
 rcases Nat.lt_or_ge i l.length with h' | h'
 ·exact h'
 ·rw [List.getElem?_eq_none h'] at h; cases h
theorem aI.get {D : SD} {xs : List Value} (h : aI Z w D xs) {i : Nat} {k : SE → OR} (hg : D.get i k = some r) :
   ∃ e cs, k e = some r ∧ i < D.len ∧ ch Z w e cs ∧ ∀ (j : Nat) v, cs[j]? = some v → xs[i * D.kind.size + j]? = some v := by
 cases D with
 | ts l =>
  obtain ⟨hs, rfl, rfl, hr⟩ := h
  obtain ⟨x, hx, hk⟩ := bind_some hg
  rw [List.getElem?_map] at hx
  obtain ⟨t, ht, rfl⟩ := Option.map_eq_some_iff.1 hx
  have := Dy ht
  refine ⟨_, _, hk, by simpa [SD.len] using aF ht, ⟨t, rfl, hr t (List.mem_of_getElem? ht), rfl⟩, fun j v hv => ?_⟩
  match j, hv with
  | 0, hv => simp at hv; subst hv; exact this.1
  | 1, hv => simp at hv; subst hv; exact this.2.1
  | 2, hv => simp at hv; subst hv; exact this.2.2
  | j + 3, hv => simp at hv
 | is l =>
  simp only [aI] at h; subst h
  obtain ⟨x, hx, hk⟩ := bind_some hg
  refine ⟨_, _, hk, aF hx, rfl, fun j v hv => ?_⟩
  match j, hv with
  | 0, hv => simp at hv; subst hv; simp [SD.kind, SK.size, hx]
  | j + 1, hv => simp at hv
 | iss l =>
  obtain ⟨x, hx, hk⟩ := bind_some hg
  obtain ⟨X, hX, hr⟩ := ax.get h hx
  refine ⟨_, _, hk, aF hx, ⟨X, rfl, hr⟩, fun j v hv => ?_⟩
  match j, hv with
  | 0, hv => simp at hv; subst hv; simpa [SD.kind, SK.size] using hX
  | j + 1, hv => simp at hv
 | ss l =>
  simp only [aI] at h; subst h
  obtain ⟨x, hx, hk⟩ := bind_some hg
  refine ⟨_, _, hk, aF hx, rfl, fun j v hv => ?_⟩
  match j, hv with
  | 0, hv => simp at hv; subst hv; simp [SD.kind, SK.size, hx]
  | j + 1, hv => simp at hv
 | bs l =>
  simp only [aI] at h; subst h
  obtain ⟨x, hx, hk⟩ := bind_some hg
  refine ⟨_, _, hk, aF hx, rfl, fun j v hv => ?_⟩
  match j, hv with
  | 0, hv => simp at hv; subst hv; simp [SD.kind, SK.size, hx]
  | j + 1, hv => simp at hv
theorem ch.cells {e : SE} {cs : List Value} (h : ch Z w e cs) : ax (dh G Z w) e.cells cs := by
 cases e with
 | t x =>
  obtain ⟨t, rfl, hr, rfl⟩ := h
  refine ax.cons ⟨?_, rfl⟩ (ax.cons ⟨?_, rfl⟩ (ax.cons ⟨Mk hr, rfl⟩ ax.nil))
  ·show _ = _; rw [HT.MI]
  ·show _ = _; rw [HT.ML]
 | i n => simp only [ch] at h; subst h; exact ax.cons ⟨rfl, rfl⟩ ax.nil
 | ii l =>
  obtain ⟨x, rfl, a, cap, rfl, h1, h2, h3⟩ := h
  refine ax.cons ⟨⟨a, cap, l.map (.int .i64 ·), rfl, h1, h2, rfl, ?_⟩, rfl⟩ ax.nil
  rcases h3 with rfl | h3
  ·exact .inl rfl
  ·exact .inr h3
 | s x => simp only [ch] at h; subst h; exact ax.cons ⟨rfl, rfl⟩ ax.nil
 | b c => simp only [ch] at h; subst h; exact ax.cons ⟨rfl, rfl⟩ ax.nil
theorem y9 {n : Nat} (h : ni P t = some n) : ∃ fs i, P.underlying t = some (.struct fs) ∧ P.info? t = some i ∧ i.size = n := by
 unfold ni at h
 split at h
 ·rename_i fs i hu hi
  exact ⟨fs, i, hu, hi, Option.some.inj h⟩
 ·cases h
theorem wY {a : Addr} {X : Value} (ht : uh P t = true) (hc : w.cell? a = some X) : (loadVar t a).run P w = .ok X w := by
 unfold uh at ht
 cases hu : P.underlying t with
 | none => simp [hu] at ht
 | some de =>
  have hag : (isAgg t).run P w = .ok false w := by
   simp only [isAgg, Sem.run_bind, run_underlying hu, Result.andThen_ok]
   cases de <;> simp_all
  simp [loadVar, Sem.run_bind, hag, load, Sem.run, hc]
theorem xJ {b o n : Nat} {xs : List Value} (ht : ni P t = some n) (hc : ca w b o xs) (hn : xs.length = n) : (loadVar t ⟨b, o, none⟩).run P w = .ok (.agg xs.toArray) w := by
 obtain ⟨fs, i, hu, hi, hs⟩ := y9 ht
 have hag : (isAgg t).run P w = .ok true w := by
  simp only [isAgg, Sem.run_bind, run_underlying hu, Result.andThen_ok]; rfl
 have hl := run_loadCells_list (P := P) (w := w) ⟨b, o, none⟩ xs (fun j v hj => by rw [kg]; exact hc j v hj)
 rw [hn, ← hs] at hl
 simp only [loadVar, Sem.run_bind, hag, Result.andThen_ok, if_true, Go.Dk.run_sizeOf hi, hl, Sem.run_pure]
theorem ca.drop {b o : Nat} {xs : List Value} (h : ca w b o xs) (n : Nat) : ca w b (o + n) (xs.drop n) := fun i x hx => by
 rw [List.getElem?_drop] at hx
 rw [Nat.add_assoc]; exact h (n + i) x hx
theorem ca.take {b o : Nat} {xs : List Value} (h : ca w b o xs) (n : Nat) : ca w b o (xs.take n) := fun i x hx => by
 rw [List.getElem?_take] at hx
 split at hx
 ·exact h i x hx
 ·cases hx
theorem kR {l : List SV} {xs : List Value} {b o : Nat} {k : AV → OR} (hl : ax (dh G Z w) l xs) (hc : ca w b o xs) (h : zE P t l k = some r) :
   ∃ v X, k v = some r ∧ (loadVar t ⟨b, o, none⟩).run P w = .ok X w ∧ RV G Z w v X := by
 unfold zE at h
 split at h
 ·rename_i ht
  split at h
  ·rename_i c l'
   obtain ⟨X, xs', rfl, h1, _⟩ := hl.cons_inv
   exact ⟨_, X, h, wY ht (hc 0 X rfl), h1.1, fun _ => h1.2⟩
  ·cases h
 ·split at h
  ·rename_i n hs
   obtain ⟨hn, h⟩ := au h
   simp only [Nat.ble_eq] at hn
   exact ⟨_, .agg (xs.take n).toArray, h, xJ hs (hc.take n) (by rw [List.length_take, ← hl.1]; omega), ⟨_, rfl, hl.take n⟩⟩
  ·cases h
theorem St.Gi {w0 : World} {M Z0 : bx} {L : List Res} {φ : Fact} {b : Nat} {T : TypeId} {vs : List Value} (hw : St w0 M Z0 L φ w) (hr : blk b vs T ∈ L) : ca w b 0 vs := by
 intro i x hx
 have := hw.own _ hr
 simp only [blk] at this
 simp [World.cell?, this, hx]
theorem sv {e sz n : Nat} {X : Value} {xs : List Value} {b off m c : Nat} (h : (Cr e sz X n xs).own w) (hX : X = .slice (some ⟨b, off, none⟩) m c) : off = 0 ∧ m = n ∧ ca w b 0 xs := by
 simp only [Cr] at h
 obtain ⟨_, h⟩ := h
 rcases h with ⟨h, _⟩ | ⟨g, cap, cur, h, _, hg, _, _, _, ht⟩
 ·rw [hX] at h; cases h
 ·rw [hX] at h
  injection h with h1 h2 h3
  injection h1 with h1
  injection h1 with h4 h5
  subst h4 h5 h2
  refine ⟨rfl, rfl, fun i x hx => ?_⟩
  have : cur.toList[i]? = some x := by
   rw [← ht] at hx
   rw [List.getElem?_take] at hx
   split at hx
   ·exact hx
   ·cases hx
  simp only [World.cell?, hg, Nat.zero_add]
  simpa using this
theorem mc : ∀ {h : List av} {G : List GO} {j : Nat} {o : av} {g : GO} {q : Res}, h[j]? = some o → G[j]? = some g → q ∈ kF o g → q ∈ a0 h G
 | [], _, j, o, g, q, hj, _, _ => by simp at hj
 | _ :: _, [], j, o, g, q, _, gj, _ => by simp at gj
 | x :: h, y :: G, 0, o, g, q, hj, gj, hq => by
  simp at hj gj; subst hj gj; simp [a0, hq]
 | x :: h, y :: G, j + 1, o, g, q, hj, gj, hq => by
  simp only [a0, List.mem_append]
  exact .inr (mc (by simpa using hj) (by simpa using gj) hq)
end
section
variable {P : Program} {w0 w : World} {M Z0 : bx} {b : Nat} {G : List GO} {s : AS} {tv : List Value}
abbrev zn (w0 : World) (Z0 : bx) (s : AS) (G : List GO) : bx := kr w0 Z0 (a0 s.heap G)
theorem bA.cells (hI : bA w0 M Z0 b G s tv w) {j : Nat} {l : List SV} (hj : s.heap[j]? = some (.cells l)) :
   ∃ bb T vs, G[j]? = some (.cells bb T vs) ∧ ax (dh G (zn w0 Z0 s G) w) l vs ∧ ca w bb 0 vs ∧ blk bb vs T ∈ a0 s.heap G := by
 obtain ⟨g, hg, hr⟩ := hI.st.per.2.get hj
 cases g with
 | cells bb T vs =>
  have hm : blk bb vs T ∈ a0 s.heap G := mc hj hg (by simp [kF])
  exact ⟨bb, T, vs, hg, hr, St.Gi hI.st hm, hm⟩
 | _ => exact hr.elim
theorem bA.arr (hI : bA w0 M Z0 b G s tv w) {j v : Nat} {e : TypeId} {D : SD} {ver : Nat} {fz : Bool} (hj : s.heap[j]? = some (.arr e D ver fz)) :
   ∃ val xs, G[j]? = some (.arr ver val D.kind.size xs) ∧ cond fz (SlR (zn w0 Z0 s G) w D val) (aI (zn w0 Z0 s G) w D xs ∧ ∃ a c, val = .slice a D.len c) := by
 obtain ⟨g, hg, hr⟩ := hI.st.per.2.get hj
 cases g with
 | arr ver' val sz xs => obtain ⟨rfl, rfl, h3⟩ := hr; exact ⟨val, xs, hg, h3⟩
 | _ => exact hr.elim
theorem jG {j v : Nat} {X val : Value} {ver sz : Nat} {xs : List Value} {Z : bx} (hx : RS G Z w (.own j v) X) (hg : G[j]? = some (.arr ver val sz xs)) (hv : v = ver) : X = val := by
 rcases hx with hx | ⟨ver', val', sz', xs', hx, _, he⟩
 ·rw [hg] at hx; cases hx
 ·rw [hg] at hx
  injection hx with hx
  injection hx with h1 h2 h3 h4
  subst h1 h2
  exact he hv
theorem lj {j o : Nat} {X : Value} {bb : Nat} {T : TypeId} {vs : List Value} {Z : bx} (hx : RS G Z w (.ptr j o) X) (hg : G[j]? = some (.cells bb T vs)) : X = pv bb o := by
 rcases hx with hx | ⟨b', T', vs', hx, he⟩
 ·rw [hg] at hx; cases hx
 ·rw [hg] at hx
  injection hx with hx
  injection hx with h1 h2 h3
  subst h1; exact he
def RdS (Z : bx) (w : World) (D : SD) (X : Value) : Prop := ∃ a c ys, X = .slice a D.len c ∧ D.len ≤ maxLen ∧ aI Z w D ys ∧ (ys = [] ∨ ∃ b off, a = some ⟨b, off, none⟩ ∧ ca w b off ys)
theorem SlR.rd {Z : bx} {D : SD} {X : Value} (h : SlR Z w D X) : RdS Z w D X := by
 obtain ⟨a, c, ys, hx, h1, h2, h3, h4⟩ := h
 exact ⟨a, c, ys, hx, h2, h3, h4.imp id fun ⟨b, off, ha, _, hc⟩ => ⟨b, off, ha, hc⟩⟩
theorem RdS.ne {Z : bx} {D : SD} {X : Value} (h : RdS Z w D X) (hl : 0 < D.len) : ∃ b off c ys, X = .slice (some ⟨b, off, none⟩) D.len c ∧ aI Z w D ys ∧ ca w b off ys := by
 obtain ⟨a, c, ys, hx, h2, h3, h4⟩ := h
 rcases h4 with rfl | ⟨b, off, rfl, hc⟩
 ·have := h3.length
  have hp := SK.size_pos D.kind
  have : 0 < D.len * D.kind.size := Nat.mul_pos hl hp
  simp at *; omega
 ·exact ⟨b, off, c, ys, hx, h3, hc⟩
theorem bA.sI (hI : bA w0 M Z0 b G s tv w) {j : Nat} {e : TypeId} {D : SD} {ver : Nat} {fz : Bool} (hj : s.heap[j]? = some (.arr e D ver fz)) :
   ∃ val xs, G[j]? = some (.arr ver val D.kind.size xs) ∧ RdS (zn w0 Z0 s G) w D val := by
 obtain ⟨val, xs, hg, hh⟩ := hI.arr (v := 0) hj
 cases fz with
 | true => exact ⟨val, xs, hg, SlR.rd hh⟩
 | false =>
  obtain ⟨h1, a, c, hx⟩ := hh
  have hm : kn e D.kind.size val D.len xs ∈ a0 s.heap G := mc hj hg (by simp [kF])
  have ho := hI.st.own _ hm
  refine ⟨val, xs, hg, ?_⟩
  subst hx
  unfold kn at ho
  split at ho
  ·rename_i a' _ he
   obtain ⟨h0, rfl, _⟩ := ho
   exact ⟨a, c, [], rfl, by rw [h0]; exact Nat.zero_le _, h1, .inl rfl⟩
  ·rename_i v hne
   have ho' := ho
   simp only [Cr] at ho
   rcases ho.2 with ⟨h2, _⟩ | ⟨g, cap, cur, h2, _, _, hn, hm, _, _⟩
   ·injection h2 with _ _ h3; subst h3; exact absurd rfl (hne a D.len)
   ·injection h2 with h3 h4 h5
    subst h3 h5
    exact ⟨_, _, xs, rfl, Nat.le_trans hn hm, h1, .inr ⟨g, 0, rfl, (sv ho' rfl).2.2⟩⟩
theorem qm (hI : bA w0 M Z0 b G s tv w) {t : TypeId} {VX : Value} {vx : AV} {k : AV → OR} {r : List V1 × List av}
   (hx : RV G (zn w0 Z0 s G) w vx VX) (h : qj P t vx s.heap k = some r) :
   ∃ v X bb o, k v = some r ∧ VX = pv bb o ∧ (loadVar t ⟨bb, o, none⟩).run P w = .ok X w ∧ RV G (zn w0 Z0 s G) w v X := by
 unfold qj at h
 split at h
 ·rename_i j off
  split at h
  ·rename_i l hj
   obtain ⟨bb, T, vs, hg, ha, hc, _⟩ := hI.cells hj
   obtain ⟨v, X, h1, h2, h3⟩ := kR (ha.drop off) (hc.drop off) h
   exact ⟨v, X, _, _, h1, by rw [Nat.zero_add]; exact lj hx.1 hg, h2, h3⟩
  ·cases h
 ·rename_i e off
  obtain ⟨bb, o, cs, hp, hb, hc, hr⟩ := hx.1
  obtain ⟨v, X, h1, h2, h3⟩ := kR (hr.cells.drop off) (hc.drop off) h
  exact ⟨v, X, _, _, h1, hp, h2, h3⟩
 ·rename_i j v i off
  split at h
  ·rename_i D ver fz hj
   obtain ⟨hv, h⟩ := au h
   simp only [Nat.beq_eq] at hv
   obtain ⟨val, xs, hg, a, c, ys, hval, _, he, hc⟩ := hI.sI hj
   obtain ⟨el, cs, h, hlt, hr, hsub⟩ := he.get h
   rcases hx.1 with hx | ⟨ver', val', sz', xs', hx, _, hh⟩
   ·rw [hg] at hx; cases hx
   ·rw [hg] at hx
    injection hx with hx
    injection hx with e1 e2 e3 e4
    subst e1 e2 e3
    obtain ⟨bb, o, n, c', hs, hi, hp⟩ := hh hv
    have hcs : ca w bb (o + i * D.kind.size) cs := by
     rcases hc with rfl | ⟨b1, o1, ha, hc⟩
     ·intro q u hq; have := hsub q u hq; simp at this
     ·rw [hval, ha] at hs
      injection hs with hs _ _
      injection hs with hs
      injection hs with e1 e2
      subst e1 e2
      intro q u hq; rw [Nat.add_assoc]; exact hc _ u (hsub q u hq)
    obtain ⟨v, X, h1, h2, h3⟩ := kR (hr.cells.drop off) (hcs.drop off) h
    exact ⟨v, X, _, _, h1, hp, h2, h3⟩
  ·cases h
 ·cases h
theorem wC (hI : bA w0 M Z0 b G s tv w) {ρ : Operand → Value} {x : Operand} {d : Option Tmp} {ty t : TypeId} {pos : String} {aft : Array Edge} {gd : Option (Nat × Bool)} {vx : AV} {k : AV → OR} {r : List V1 × List av}
   (hx : RV G (zn w0 Z0 s G) w vx (ρ x)) (h : qj P t vx s.heap k = some r) :
   ∃ v X, k v = some r ∧ (execOp ρ ⟨d, .load t x, ty, pos, aft, gd⟩).run P w = .ok (.value X) w ∧ RV G (zn w0 Z0 s G) w v X := by
 obtain ⟨v, X, bb, o, h1, hp, hr, hv⟩ := qm hI hx h
 refine ⟨v, X, h1, ?_, hv⟩
 simp [execOp, Instr.loadAt, hp, pv, Instr.sureAddr, Sem.run_bind, hr]
theorem SK.jL (k : SK) : k.nil.len = 0 := by cases k <;> rfl
theorem SK.BH (k : SK) : k.nil.kind = k := by cases k <;> rfl
theorem kp {Z : bx} (k : SK) : aI Z w k.nil [] := by cases k <;> first | exact ⟨[], rfl, rfl, nofun⟩ | rfl | exact ax.nil
theorem IK {Z : bx} (k : SK) (a : Option Addr) : RdS Z w k.nil (.slice a 0 0) := ⟨a, 0, [], by rw [k.jL], by rw [k.jL]; exact Nat.zero_le _, kp k, .inl rfl⟩
theorem yW {Z : bx} (k : SK) (a : Option Addr) : SlR Z w k.nil (.slice a 0 0) := ⟨a, 0, [], by rw [k.jL], by rw [k.jL]; exact Nat.le_refl _, by rw [k.jL]; exact Nat.zero_le _, kp k, .inl rfl⟩
variable {ρ : Operand → Value} {x y : Operand} {d : Option Tmp} {ty t t' : TypeId} {pos : String} {aft : Array Edge} {gd : Option (Nat × Bool)} {vx vy : AV} {r : List V1 × List av} {X : Value}
theorem k8 (hI : bA w0 M Z0 b G s tv w) {v : SV} {k : SD → OR} (hx : RS G (zn w0 Z0 s G) w v X) (h : z5 s.heap v k = some r) : ∃ D, k D = some r ∧ RdS (zn w0 Z0 s G) w D X := by
 unfold z5 at h
 split at h
 ·exact ⟨_, h, SlR.rd hx⟩
 ·obtain ⟨a, rfl⟩ := hx
  exact ⟨_, h, IK _ _⟩
 ·split at h
  ·rename_i hj
   obtain ⟨hv, h'⟩ := au h
   simp only [Nat.beq_eq] at hv
   obtain ⟨val, xs, hg, hr⟩ := hI.sI hj
   rw [jG hx hg hv]
   exact ⟨_, h', hr⟩
  ·cases h
 ·cases h
theorem yE (hI : bA w0 M Z0 b G s tv w) {k : SV → OR} (hx : RV G (zn w0 Z0 s G) w vx (ρ x)) (h : DX P t vx s.heap k = some r) :
   ∃ v X, k v = some r ∧ (execOp ρ ⟨d, .call ⟨.builtin .len, #[x], #[t]⟩, ty, pos, aft, gd⟩).run P w = .ok (.value X) w ∧ dh G (zn w0 Z0 s G) w v X := by
 unfold DX at h
 split at h
 ·split at h
  ·rename_i hu
   exact ⟨_, _, h, (Gw (S := fun _ => True) (by simp [nP, hu]) (mR hx)).out w trivial, eH _ _⟩
  ·cases h
 ·split at h
  ·rename_i hk
   obtain ⟨a, hX⟩ := hx.1
   exact ⟨_, _, h, (sH (S := fun _ => True) (oJ hk) hX).out w trivial, eH _ _⟩
  ·cases h
 ·split at h
  ·rename_i hk
   obtain ⟨D, h', a, c, ys, hX, _⟩ := k8 hI hx.1 h
   exact ⟨_, _, h', (sH (S := fun _ => True) (oJ hk) hX).out w trivial, eH _ _⟩
  ·cases h
 ·cases h
theorem SlR.get {Z : bx} {D : SD} {i : Nat} {k : SE → OR} (h : SlR Z w D X) (hg : D.get i k = some r) :
   ∃ e bb off c, k e = some r ∧ X = .slice (some ⟨bb, off, none⟩) D.len c ∧ i < D.len ∧ EpR Z w e 0 (pv bb (off + i * D.kind.size)) := by
 obtain ⟨a, c, ys, hx, h1, h2, h3, h4⟩ := h
 obtain ⟨e, cs, hk, hlt, hr, hsub⟩ := h3.get hg
 rcases h4 with rfl | ⟨bb, off, rfl, hb, hc⟩
 ·cases cs with
  | nil => exact absurd rfl hr.ne
  | cons u cs => have := hsub 0 u rfl; simp at this
 ·exact ⟨e, bb, off, c, hk, hx, hlt, bb, off + i * D.kind.size, cs, rfl, hb, fun q u hq => by rw [Nat.add_assoc]; exact hc _ u (hsub q u hq), hr⟩
theorem m4 (hI : bA w0 M Z0 b G s tv w) {k : SV → OR} (hx : RV G (zn w0 Z0 s G) w vx (ρ x)) (hy : RV G (zn w0 Z0 s G) w vy (ρ y)) (h : gJ P t vx vy s.heap k = some r) :
   ∃ v X, k v = some r ∧ (execOp ρ ⟨d, .indexAddr t x y, ty, pos, aft, gd⟩).run P w = .ok (.value X) w ∧ dh G (zn w0 Z0 s G) w v X := by
 unfold gJ at h
 split at h
 ·cases h
 ·rename_i e hk
  obtain ⟨i, hY, h⟩ := bS h hy
  obtain ⟨hi, h⟩ := au h
  have hi : 0 ≤ i := by simpa using hi
  split at h
  ·rename_i D
   obtain ⟨he, h⟩ := au h
   have he := SK.beq_eq he
   obtain ⟨el, bb, off, c, h, hX, hlt, hp⟩ := SlR.get hx.1 h
   refine ⟨_, _, h, (px (S := fun _ => True) (oJ hk) hX hY ⟨hi, by omega⟩).out w trivial, ?_, rfl⟩
   rw [he]; exact hp
  ·split at h
   ·rename_i j v D ver _ hj
    obtain ⟨hv, h⟩ := au h
    simp only [Bool.and_eq_true, Nat.beq_eq] at hv
    have he := SK.beq_eq hv.2
    obtain ⟨hlt, h⟩ := au h
    have hlt : i < D.len := by simpa using hlt
    obtain ⟨val, xs, hg, hr⟩ := hI.sI hj
    obtain ⟨bb, off, c, ys, hX, _⟩ := hr.ne (by omega)
    have hX' := jG hx.1 hg hv.1
    refine ⟨_, _, h, (px (S := fun _ => True) (oJ hk) (hX'.trans hX) hY ⟨hi, hlt⟩).out w trivial, .inr ⟨ver, val, D.kind.size, xs, hg, by omega, fun _ => ⟨bb, off, D.len, c, hX, by omega, ?_⟩⟩, rfl⟩
    rw [he]; rfl
   ·cases h
  ·cases h
theorem Jp {e : TypeId} (h : Ek P e = some .b) : P.underlying e = some (.int .u8) := by
 unfold Ek at h
 split at h
 ·split at h <;> cases h
 ·cases h
 ·rename_i hu; exact hu
 ·cases h
 ·split at h <;> cases h
 ·cases h
theorem I1 {l : List UInt8} {ys : List Value} {Z : bx} (h : aI Z w (.bs l) ys) : ys = l.map fun c => .int .u8 (c.toNat : Int) := h
theorem u0 (hI : bA w0 M Z0 b G s tv w) {k : SV → OR} (hx : RV G (zn w0 Z0 s G) w vx (ρ x)) (h : xN P t t' vx s.heap k = some r) :
   ∃ v X, k v = some r ∧ (execOp ρ ⟨d, .convert t t' x, ty, pos, aft, gd⟩).run P w = .ok (.value X) w ∧ dh G (zn w0 Z0 s G) w v X := by
 unfold xN at h
 split at h
 ·split at h
  ·rename_i h1 h2
   exact ⟨_, _, h, by simp [go_sem, execOp, convert, (iB hx), Sem.run_bind, run_underlying h1, run_underlying h2, Conv.intToInt], eH _ _⟩
  ·cases h
 ·split at h
  ·rename_i h1 h2
   obtain ⟨D, h', a, c, ys, hX, hmx, he, hc⟩ := k8 hI hx.1 h
   split at h'
   ·rename_i l
    obtain ⟨h3, h4⟩ := gK h1
    have h5 := Jp (gG h4).1
    have he := I1 he
    refine ⟨_, _, h', ?_, zO _⟩
    have key : (Conv.bytesToString (ρ x)).run P w = .ok (.string ⟨l.toArray⟩) w := by
     rw [hX]
     have hfold : ∀ (l : List UInt8) (s : ByteArray), ((l.map fun c => (c.toNat : Int)).foldl (fun r n => r.push (UInt8.ofNat n.toNat)) s) = ⟨s.data ++ l.toArray⟩ := by
      intro l
      induction l with
      | nil => intro s; simp
      | cons c l ih => intro s; simp only [List.map_cons, List.foldl_cons, ih]; simp [ByteArray.push]
     cases a with
     | none =>
      rcases hc with rfl | ⟨_, _, ha, _⟩
      ·cases l with
       | nil => rfl
       | cons c l => simp at he
      ·cases ha
     | some a =>
      have hl : (loadCells a (SD.bs l).len).run P w = .ok ((l.map fun c => (c.toNat : Int)).map (Value.int .u8)).toArray w := by
       have : ((l.map fun c => (c.toNat : Int)).map (Value.int .u8)) = ys := by rw [he]; simp
       rw [this]
       have hlen : (SD.bs l).len = ys.length := by rw [he]; simp [SD.len]
       rw [hlen]
       refine run_loadCells_list w a ys fun j v hj => ?_
       rcases hc with rfl | ⟨b1, o1, ha, hc⟩
       ·simp at hj
       ·injection ha with ha; subst ha; rw [kg]; exact hc j v hj
      rw [run_bytesToString w a _ c _ hl, hfold]
      simp
    rw [hX] at key
    simp only [execOp, hX, Sem.run_bind, run_convert_bytes_string w t t' _ a _ c h3 h5 h2, key, Result.andThen_ok, Sem.run_pure]
   ·cases h'
  ·cases h
 ·cases h
theorem bA.qQ (hI : bA w0 M Z0 b G s tv w) {j : Nat} (h : qQ s.heap j = true) : ∃ bb T vs, G[j]? = some (.cells bb T vs) := by
 unfold Go.Ab.qQ at h
 split at h
 ·rename_i hj; obtain ⟨bb, T, vs, hg, _⟩ := hI.cells hj; exact ⟨bb, T, vs, hg⟩
 ·cases h
theorem bA.yG (hI : bA w0 M Z0 b G s tv w) {j v : Nat} (h : yG s.heap j v = true) : ∃ val sz xs, G[j]? = some (.arr v val sz xs) := by
 unfold Go.Ab.yG at h
 split at h
 ·rename_i hj; obtain ⟨val, xs, hg, _⟩ := hI.sI hj; simp only [Nat.beq_eq] at h; subst h; exact ⟨val, _, xs, hg⟩
 ·cases h
theorem FQ {Z : bx} {j v i o : Nat} {val : Value} {sz : Nat} {xs : List Value} (hx : RS G Z w (.op j v i o) X) (hg : G[j]? = some (.arr v val sz xs)) :
   ∃ bb off n c, val = .slice (some ⟨bb, off, none⟩) n c ∧ i < n ∧ X = pv bb (off + i * sz + o) := by
 rcases hx with hx | ⟨ver', val', sz', xs', hx, _, he⟩
 ·rw [hg] at hx; cases hx
 ·rw [hg] at hx
  injection hx with hx
  injection hx with h1 h2 h3 h4
  subst h1 h2 h3
  exact he rfl
theorem ug (hI : bA w0 M Z0 b G s tv w) {i D : Nat} {k : SV → OR} (hx : RV G (zn w0 Z0 s G) w vx (ρ x)) (hf : mb P t i = some D) (h : pr s.heap D vx k = some r) :
   ∃ v X, k v = some r ∧ (execOp ρ ⟨d, .fieldAddr t x i, ty, pos, aft, gd⟩).run P w = .ok (.value X) w ∧ dh G (zn w0 Z0 s G) w v X := by
 unfold pr at h
 split at h
 ·obtain ⟨hl, h⟩ := au h
  obtain ⟨bb, T, vs, hg⟩ := hI.qQ hl
  exact ⟨_, _, h, (kV (S := fun _ => True) hf (lj hx.1 hg)).out w trivial, .inr ⟨bb, T, vs, hg, rfl⟩, rfl⟩
 ·obtain ⟨bb, off, cs, hX, hb, hc, hr⟩ := hx.1
  exact ⟨_, _, h, (kV (S := fun _ => True) hf hX).out w trivial, ⟨bb, off, cs, by rw [Nat.add_assoc], hb, hc, hr⟩, rfl⟩
 ·obtain ⟨hl, h⟩ := au h
  obtain ⟨val, sz, xs, hg⟩ := hI.yG hl
  obtain ⟨bb, off, n, c, hv, hi, hX⟩ := FQ hx.1 hg
  exact ⟨_, _, h, (kV (S := fun _ => True) hf hX).out w trivial, .inr ⟨_, val, sz, xs, hg, Nat.le_refl _, fun _ => ⟨bb, off, n, c, hv, hi, by rw [Nat.add_assoc]; rfl⟩⟩, rfl⟩
 ·cases h
theorem jZ {bb o : Nat} (h : ρ x = pv bb o) : (execOp ρ ⟨d, .nilCheck x, ty, pos, aft, gd⟩).run P w = .ok (.value (pv bb o)) w := (B8 (S := fun _ => True) h).out w trivial
theorem zq (hI : bA w0 M Z0 b G s tv w) {k : SV → OR} (hx : RV G (zn w0 Z0 s G) w vx (ρ x)) (h : FR s.heap vx k = some r) :
   ∃ v X, k v = some r ∧ (execOp ρ ⟨d, .nilCheck x, ty, pos, aft, gd⟩).run P w = .ok (.value X) w ∧ dh G (zn w0 Z0 s G) w v X := by
 unfold FR at h
 split at h
 ·obtain ⟨hl, h⟩ := au h
  obtain ⟨bb, T, vs, hg⟩ := hI.qQ hl
  exact ⟨_, _, h, jZ (lj hx.1 hg), .inr ⟨bb, T, vs, hg, rfl⟩, rfl⟩
 ·obtain ⟨bb, off, cs, hX, hb, hc, hr⟩ := hx.1
  exact ⟨_, _, h, jZ hX, ⟨bb, off, cs, rfl, hb, hc, hr⟩, rfl⟩
 ·obtain ⟨hl, h⟩ := au h
  obtain ⟨val, sz, xs, hg⟩ := hI.yG hl
  obtain ⟨bb, off, n, c, hv, hi, hX⟩ := FQ hx.1 hg
  exact ⟨_, _, h, jZ hX, .inr ⟨_, val, sz, xs, hg, Nat.le_refl _, fun _ => ⟨bb, off, n, c, hv, hi, rfl⟩⟩, rfl⟩
 ·obtain ⟨bs, hX, hh⟩ := hx.1
  exact ⟨_, _, h, (yK (S := fun _ => True) hX).out w trivial, ⟨bs, rfl, hh⟩, rfl⟩
 ·cases h
theorem tY {Z : bx} {k : SV → OR} (hx : RV G Z w vx (ρ x)) (hy : RV G Z w vy (ρ y)) (h : pf P t vx vy k = some r) :
   ∃ v X, k v = some r ∧ (execOp ρ ⟨d, .index t x y, ty, pos, aft, gd⟩).run P w = .ok (.value X) w ∧ dh G Z w v X := by
 unfold pf at h
 split at h
 ·obtain ⟨n, hY, h⟩ := bS h hy
  obtain ⟨hn, h⟩ := au h
  simp only [Bool.and_eq_true, decide_eq_true_eq] at hn
  split at h
  ·rename_i hu
   exact ⟨_, _, h, (Ck (S := fun _ => True) (by simp [nP, hu]) (mR hx) hY ⟨hn.1, by omega⟩).out w trivial, eH _ _⟩
  ·cases h
 ·cases h
theorem pU {Z : bx} {i : Nat} {k : AV → OR} (hx : RV G Z w vx (ρ x)) (h : jJ vx i k = some r) :
   ∃ v X, k v = some r ∧ (execOp ρ ⟨d, .extract x i, ty, pos, aft, gd⟩).run P w = .ok (.value X) w ∧ RV G Z w v X := by
 unfold jJ at h
 split at h
 ·obtain ⟨v, hv, h⟩ := bind_some h
  obtain ⟨xs, hX, hh⟩ := hx
  obtain ⟨X, hX', hr⟩ := hh.get hv
  exact ⟨_, X, h, (DM (S := fun _ => True) hX (by simpa using hX')).out w trivial, hr⟩
 ·cases h
theorem qf {Z : bx} {mx : Bool} {tys : Array TypeId} {k : SV → OR} (hx : RV G Z w vx (ρ x)) (hy : RV G Z w vy (ρ y)) (h : B4 mx vx vy k = some r) :
   ∃ v X, k v = some r ∧ (execOp ρ ⟨d, .call ⟨.builtin (cond mx .max .min), #[x, y], tys⟩, ty, pos, aft, gd⟩).run P w = .ok (.value X) w ∧ dh G Z w v X := by
 unfold B4 at h
 split at h
 ·obtain ⟨hk, h'⟩ := au h
  obtain rfl := uG hk
  refine ⟨_, _, h', ?_, eH _ _⟩
  cases mx
  ·simp [execOp, resolve, invoke, builtin, Builtin.min_, Builtin.min2, (iB hx), (iB hy), Sem.run_bind, Sem.run_pure, Int.min_def]
   split <;> split <;> first | rfl | omega
  ·simp [execOp, resolve, invoke, builtin, Builtin.max_, Builtin.max2, (iB hx), (iB hy), Sem.run_bind, Sem.run_pure, Int.max_def]
   split <;> split <;> first | rfl | omega
 ·cases h
theorem nL (hI : bA w0 M Z0 b G s tv w) : ∀ {vs : List AV} {xs : List Value} {l : List Nat}, ax (RV G (zn w0 Z0 s G) w) vs xs → yg s.heap vs = some l →
   ∃ bs : List Nat, xs = bs.map (fun b => pv b 0) ∧ ax (fun j b => G[j]? = some .gone ∨ ∃ T vs, G[j]? = some (.cells b T vs)) l bs
 | [], xs, l, ha, h => by
  obtain rfl := ha.a7
  simp only [yg, Option.some.injEq] at h
  subst h
  exact ⟨[], rfl, ax.nil⟩
 | v :: vs, xs, l, ha, h => by
  obtain ⟨X, xs', rfl, h1, h2⟩ := ha.cons_inv
  unfold yg at h
  split at h
  ·rename_i e; cases e
  ·rename_i j vs' e
   simp only [List.cons.injEq] at e
   obtain ⟨rfl, rfl⟩ := e
   cases hl : qQ s.heap j with
   | false => simp [hl] at h
   | true =>
    simp only [hl, cond_true, Option.map_eq_some_iff] at h
    obtain ⟨l', hl', rfl⟩ := h
    obtain ⟨bs, rfl, hh⟩ := nL hI h2 hl'
    obtain ⟨bb, T, vs0, hg⟩ := hI.qQ hl
    exact ⟨bb :: bs, by rw [List.map_cons, lj h1.1 hg], ax.cons (.inr ⟨T, vs0, hg⟩) hh⟩
  ·cases h
end
end Go.Ab
namespace Go.Ab
open Go Go.Dk
section
variable {P : Program} {w0 w w' : World} {M Z0 : bx} {b : Nat} {G : List GO} {s : AS} {tv : List Value}
theorem Md {Z : bx} {L L' : List Res} (h : ∀ r ∈ L', r ∈ L) : ∀ k, kr w0 Z0 L k → kr w0 Z0 L' k := fun k hk => ⟨hk.1, fun r hr => hk.2 r (h r hr)⟩
theorem aT {Z Z' : bx} (h : ∀ k, Z k → Z' k) : iA Z Z' w w := fun k hk _ => ⟨h k hk, rfl⟩
theorem bA.put (hI : bA w0 M Z0 b G s tv w) (d : Option Tmp) {v : AV} {X : Value} (h : RV G (zn w0 Z0 s G) w v X) :
   bA w0 M Z0 b G (s.put d v) (match d with | some d => tv.set d X | none => tv) w := by
 cases d with
 | none => exact hI
 | some d => exact ⟨hI.st.kW (aY _ _ _) fun hp => ⟨hp.1.set d h, hp.2⟩, hI.fresh, hI.mz⟩
theorem bA.len (hI : bA w0 M Z0 b G s tv w) : s.heap.length = G.length := hI.st.per.2.1
theorem ko {α : Type} {l : List α} {j : Nat} {a : α} (h : l[j]? = some a) : l.set j a = l := by
 apply List.ext_getElem?
 intro i
 by_cases hi : j = i
 ·subst hi; rw [List.getElem?_set_self (aF h), h]
 ·rw [List.getElem?_set_ne hi]
theorem bA.lK (hI : bA w0 M Z0 b G s tv w) {j : Nat} {e : TypeId} {D : SD} {ver : Nat} {fz : Bool} (hj : s.heap[j]? = some (.arr e D ver fz)) :
   bA w0 M Z0 b G ⟨s.tmps, s.heap.set j (.arr e D ver true)⟩ tv w ∧ (∀ k, zn w0 Z0 s G k → zn w0 Z0 ⟨s.tmps, s.heap.set j (.arr e D ver true)⟩ G k) := by
 cases fz with
 | true => rw [ko hj]; exact ⟨hI, fun _ h => h⟩
 | false =>
  obtain ⟨val, xs, hg, hrd⟩ := hI.sI hj
  have hP := hI.st.perm (dH s.heap G j hj hg)
  have hrest : (a0 (s.heap.set j (.arr e D ver true)) G).Perm (a0 (s.heap.set j .dead) (G.set j .gone)) := by
   have := dH (s.heap.set j (.arr e D ver true)) G j (o := .arr e D ver true) (g := .arr ver val D.kind.size xs) (by simp [aF hj]) hg
   rw [List.set_set] at this
   simpa [kF] using this
  have hS : St w0 M Z0 (kn e D.kind.size val D.len xs :: a0 (s.heap.set j .dead) (G.set j .gone)) (FZ s G tv) w := by simpa [kF] using hP
  have hT := hS.tail.perm hrest.symm
  have hle : ∀ k, zn w0 Z0 s G k → kr w0 Z0 (a0 (s.heap.set j (.arr e D ver true)) G) k := by
   refine Md (Z := Z0) fun r hr => ?_
   exact (dH s.heap G j hj hg).mem_iff.2 (List.mem_append.2 (.inr (hrest.mem_iff.1 hr)))
  refine ⟨⟨hT.kW (aY _ _ _) fun hp => ⟨hp.1, ?_⟩, hI.fresh, hI.mz⟩, hle⟩
  have := hp.2.set j (a := .arr e D ver true) (b := .arr ver val D.kind.size xs) ⟨rfl, rfl, ?_⟩
  ·rw [ko hg] at this; exact this
  ·show SlR _ _ _ _
   obtain ⟨a, c, ys, hX, hm, he, hc⟩ := hrd
   have ho := hS.own _ (List.mem_cons_self ..)
   have hcap : D.len ≤ c := by
    subst hX
    unfold kn at ho
    split at ho
    ·rename_i he; obtain ⟨h0, _⟩ := ho; rw [h0]; exact Nat.zero_le _
    ·simp only [Cr] at ho
     rcases ho.2 with ⟨h2, h3⟩ | ⟨g, cap, cur, h2, _, _, hn, _⟩
     ·rw [h3]; exact Nat.zero_le _
     ·injection h2 with _ _ h5; omega
   refine ⟨a, c, ys, hX, hcap, hm, he.aP (aT hle), ?_⟩
   rcases hc with hc | ⟨b1, off, ha, hc⟩
   ·exact .inl hc
   ·by_cases hys : ys = []
    ·exact .inl hys
    ·refine .inr ⟨b1, off, ha, ?_, hc⟩
     have hc0 : c ≠ 0 := by
      rintro rfl
      have h0 : D.len = 0 := by omega
      have := he.length
      rw [h0, Nat.zero_mul] at this
      exact hys (List.eq_nil_of_length_eq_zero this)
     have hfoot : (kn e D.kind.size val D.len xs).foot b1 := by
      subst hX ha
      unfold kn
      split
      ·rename_i he; injection he with _ _ h3; exact absurd h3 hc0
      ·rfl
     have hk := (hS.key _ (List.mem_cons_self ..) b1 hfoot).1
     refine ⟨hk.imp (hI.mz b1) id, fun r hr hf => ?_⟩
     have hd := hS.dis
     rw [List.pairwise_cons] at hd
     exact hd.1 r (hrest.mem_iff.1 hr) b1 hfoot hf
theorem bA.mU (hI : bA w0 M Z0 b G s tv w) {j v : Nat} {e : TypeId} {D : SD} {ver : Nat} {X : Value} (hj : s.heap[j]? = some (.arr e D ver true)) (hv : v = ver) (hx : RS G (zn w0 Z0 s G) w (.own j v) X) :
   SlR (zn w0 Z0 s G) w D X := by
 obtain ⟨val, xs, hg, hh⟩ := hI.arr (v := 0) hj
 rw [jG hx hg hv]; exact hh
structure dC (w0 : World) (M Z0 : bx) (b : Nat) (G : List GO) (s : AS) (tv : List Value) (w : World) (h : List av) : Prop where
 inv : bA w0 M Z0 b G ⟨s.tmps, h⟩ tv w
 le : ∀ k, zn w0 Z0 s G k → zn w0 Z0 ⟨s.tmps, h⟩ G k
 dead : ∀ j : Nat, s.heap[j]? = some .dead → h[j]? = some .dead
theorem dC.refl (hI : bA w0 M Z0 b G s tv w) : dC w0 M Z0 b G s tv w s.heap := ⟨hI, fun _ h => h, fun _ h => h⟩
theorem dC.trans {h h' : List av} (h1 : dC w0 M Z0 b G s tv w h) (h2 : dC w0 M Z0 b G ⟨s.tmps, h⟩ tv w h') : dC w0 M Z0 b G s tv w h' :=
 ⟨h2.inv, fun k hk => h2.le k (h1.le k hk), fun j hj => h2.dead j (h1.dead j hj)⟩
variable {r : List V1 × List av}
theorem kL (hI : bA w0 M Z0 b G s tv w) {v : SV} {X : Value} {k : SV → List av → OR} (hx : dh G (zn w0 Z0 s G) w v X) (h : ou s.heap v k = some r) :
   ∃ v' h', k v' h' = some r ∧ dC w0 M Z0 b G s tv w h' ∧ dh G (zn w0 Z0 ⟨s.tmps, h'⟩ G) w v' X := by
 unfold ou at h
 split at h
 ·rename_i j v
  split at h
  ·rename_i e D ver fz hj
   obtain ⟨hv, h'⟩ := au h
   simp only [Nat.beq_eq] at hv
   obtain ⟨h1, h2⟩ := hI.lK hj
   refine ⟨_, _, h', ⟨h1, h2, fun i hi => ?_⟩, ?_, hx.2⟩
   ·have : j ≠ i := by rintro rfl; rw [hj] at hi; cases hi
    simpa [List.getElem?_set_ne this] using hi
   ·exact h1.mU (e := e) (by simp [aF hj]) hv (hx.1.aP (aT h2))
  ·cases h
 ·obtain ⟨⟨a, rfl⟩, h2⟩ := hx
  exact ⟨_, _, h, dC.refl hI, yW _ _, h2⟩
 ·exact ⟨_, _, h, dC.refl hI, hx⟩
theorem gO : ∀ {l : List SV} {s : AS} {xs : List Value} {k : List SV → List av → OR}, bA w0 M Z0 b G s tv w → ax (dh G (zn w0 Z0 s G) w) l xs → lb s.heap l k = some r →
   ∃ l' h', k l' h' = some r ∧ dC w0 M Z0 b G s tv w h' ∧ ax (dh G (zn w0 Z0 ⟨s.tmps, h'⟩ G) w) l' xs
 | [], s, xs, k, hI, ha, h => by
  obtain rfl := ha.a7
  exact ⟨_, _, h, dC.refl hI, ax.nil⟩
 | v :: l, s, xs, k, hI, ha, h => by
  obtain ⟨X, xs', rfl, h1, h2⟩ := ha.cons_inv
  unfold lb at h
  obtain ⟨v', h', hk, hs, hv⟩ := kL hI h1 h
  obtain ⟨l', h'', hk', hs', hl⟩ := gO hs.inv (h2.mono fun _ _ _ q => ⟨q.1.aP (aT hs.le), q.2⟩) hk
  exact ⟨_, _, hk', hs.trans hs', ax.cons ⟨hv.1.aP (aT hs'.le), hv.2⟩ hl⟩
def SE.kind : SE → SK | .t _ => .t | .i _ => .i | .ii _ => .ii | .s _ => .s | .b _ => .b
theorem tn {Z : bx} {k : IntKind} {n : Int} {X : Value} (h : dh G Z w (.int k n) X) : X = .int k n := h.1
theorem DZ {n : Int} (h0 : 0 ≤ n) (h1 : n ≤ 255) : ((UInt8.ofNat n.toNat).toNat : Int) = n := by
 have : (UInt8.ofNat n.toNat).toNat = n.toNat % 256 := by simp
 rw [this]; omega
theorem nG {Z : bx} {e : SK} {l : List SV} {xs : List Value} {k : SE → OR} (ha : ax (dh G Z w) l xs) (h : elemOf e l k = some r) :
   ∃ x, k x = some r ∧ ch Z w x xs ∧ x.kind = e ∧ (∀ v ∈ xs, uY v = true) := by
 have h1 : ∀ v ∈ xs, uY v = true := fun v hv => by
  obtain ⟨i, hi⟩ := List.getElem?_of_mem hv
  obtain ⟨a, _, hr⟩ := ha.get' hi
  exact hr.2
 unfold elemOf at h
 split at h
 ·rename_i a c l
  obtain ⟨x1, m1, rfl, e1, ha⟩ := ha.cons_inv
  obtain ⟨x2, m2, rfl, e2, ha⟩ := ha.cons_inv
  obtain ⟨x3, m3, rfl, e3, ha⟩ := ha.cons_inv
  obtain rfl := ha.a7
  obtain ⟨t, h2, h3, h4, h5, h6⟩ := Mb e3.1 a c
  exact ⟨_, h, ⟨t, h2, h3, by rw [tn e1, tn e2, h4, h5, h6]⟩, rfl, h1⟩
 ·obtain ⟨x1, m1, rfl, e1, ha⟩ := ha.cons_inv
  obtain rfl := ha.a7
  exact ⟨_, h, by rw [tn e1]; rfl, rfl, h1⟩
 ·obtain ⟨x1, m1, rfl, e1, ha⟩ := ha.cons_inv
  obtain rfl := ha.a7
  obtain ⟨a, c, ys, h2, h3, h4, h5, h6⟩ := e1.1
  simp only [aI] at h5
  subst h5
  exact ⟨_, h, ⟨x1, rfl, a, c, h2, h3, h4, h6.imp (fun h => by simpa using h) id⟩, rfl, h1⟩
 ·obtain ⟨x1, m1, rfl, e1, ha⟩ := ha.cons_inv
  obtain rfl := ha.a7
  exact ⟨_, h, by rw [show x1 = _ from e1.1]; rfl, rfl, h1⟩
 ·obtain ⟨x1, m1, rfl, e1, ha⟩ := ha.cons_inv
  obtain rfl := ha.a7
  obtain ⟨hn, h⟩ := au h
  simp only [Bool.and_eq_true, decide_eq_true_eq] at hn
  exact ⟨_, h, by rw [tn e1]; show _ = _; rw [DZ hn.1 hn.2], rfl, h1⟩
 ·cases h
theorem Cx {Z : bx} {D D' : SD} {x : SE} {xs cs : List Value} (hd : aI Z w D xs) (hc : ch Z w x cs) (h : D.snoc x = some D') :
   aI Z w D' (xs ++ cs) ∧ D'.len = D.len + 1 ∧ D'.kind = D.kind ∧ cs.length = D.kind.size ∧ x.kind = D.kind := by
 unfold SD.snoc at h
 split at h
 ·obtain rfl := Option.some.inj h
  obtain ⟨hs, rfl, rfl, hr⟩ := hd
  obtain ⟨t, rfl, ht, rfl⟩ := hc
  refine ⟨⟨hs ++ [t], by simp, by rw [nK, bR, gT], fun u hu => ?_⟩, by simp [SD.len], rfl, rfl, rfl⟩
  rcases List.mem_append.1 hu with hu | hu
  ·exact hr u hu
  ·rw [List.mem_singleton.1 hu]; exact ht
 ·obtain rfl := Option.some.inj h
  simp only [aI, ch] at hd hc; subst hd hc
  exact ⟨by simp [aI], by simp [SD.len], rfl, rfl, rfl⟩
 ·obtain rfl := Option.some.inj h
  obtain ⟨X, rfl, hX⟩ := hc
  exact ⟨ax.append hd (ax.cons hX ax.nil), by simp [SD.len], rfl, rfl, rfl⟩
 ·obtain rfl := Option.some.inj h
  simp only [aI, ch] at hd hc; subst hd hc
  exact ⟨by simp [aI], by simp [SD.len], rfl, rfl, rfl⟩
 ·obtain rfl := Option.some.inj h
  simp only [aI, ch] at hd hc; subst hd hc
  exact ⟨by simp [aI], by simp [SD.len], rfl, rfl, rfl⟩
 ·cases h
theorem lV {e : SK} : ∀ {cs : List (List SV)} {s : AS} {xss : List (List Value)} {D : SD} {ys : List Value} {k : SD → List av → OR}, bA w0 M Z0 b G s tv w →
   ax (ax (dh G (zn w0 Z0 s G) w)) cs xss → aI (zn w0 Z0 s G) w D ys → D.kind = e → la e s.heap cs D k = some r →
   ∃ D' h', k D' h' = some r ∧ dC w0 M Z0 b G s tv w h' ∧ aI (zn w0 Z0 ⟨s.tmps, h'⟩ G) w D' (ys ++ xss.flatten) ∧ D'.len = D.len + cs.length ∧ D'.kind = e ∧ ∀ x ∈ xss, x.length = e.size ∧ ∀ v ∈ x, uY v = true
 | [], s, xss, D, ys, k, hI, ha, he, hk, h => by
  obtain rfl := ha.a7
  exact ⟨D, s.heap, h, dC.refl hI, by simpa using he, rfl, hk, by simp⟩
 | c :: cs, s, xss, D, ys, k, hI, ha, he, hk, h => by
  obtain ⟨x, xss', rfl, h1, h2⟩ := ha.cons_inv
  unfold la at h
  obtain ⟨c', h', h, hs, hc⟩ := gO hI h1 h
  obtain ⟨el, h, hcr, hek, hone⟩ := nG hc h
  obtain ⟨D1, hd1, h⟩ := bind_some h
  obtain ⟨g1, g2, g3, g4, g5⟩ := Cx (he.aP (aT hs.le)) hcr hd1
  obtain ⟨D', h'', hk', hs', e1, e2, e3, e4⟩ := lV (k := k) hs.inv (h2.mono fun _ _ _ q => q.mono fun _ _ _ p => ⟨p.1.aP (aT hs.le), p.2⟩) g1 (g3.trans hk) h
  refine ⟨D', h'', hk', hs.trans hs', by rw [List.flatten_cons, ← List.append_assoc]; exact e1, by rw [e2, g2, List.length_cons]; omega, e3, ?_⟩
  intro y hy
  rcases List.mem_cons.1 hy with rfl | hy
  ·exact ⟨by rw [g4, hk], hone⟩
  ·exact e4 y hy
theorem bA.BW (hI : bA w0 M Z0 b G s tv w) {j : Nat} (h : G[j]? = some .fresh) : s.heap[j]? = some .dead := by
 obtain ⟨o, ho, hr⟩ := hI.st.per.2.get' h
 cases o with
 | dead => exact ho
 | _ => exact hr.elim
theorem bA.newObj (hI : bA w0 M Z0 b G s tv w) (hb : b < G.length) (hg : uZ w w') {o : av} {g : GO} (hq : ∀ q ∈ kF o g, q.own w' ∧ ∀ k, q.foot k → w.heap.size ≤ k ∧ k < w'.heap.size)
   (hro : ∀ Z', iA (zn w0 Z0 s G) Z' w w' → RO (G.set b g) Z' w' o g) :
   bA w0 M Z0 (b + 1) (G.set b g) ⟨s.tmps, s.heap.set b o⟩ tv w' ∧ iA (zn w0 Z0 s G) (zn w0 Z0 ⟨s.tmps, s.heap.set b o⟩ (G.set b g)) w w' := by
 have hgb := hI.fresh b (Nat.le_refl _) hb
 have hdead := hI.BW hgb
 have hbl : b < s.heap.length := by rw [hI.len]; exact hb
 have hin := yT (h := s.heap) (G := G) o g hbl hb
 have hP := hI.st.perm (dH s.heap G b hdead hgb)
 rw [cU, List.nil_append] at hP
 have hone : kF o g = [] ∨ ∃ q, kF o g = [q] := by
  unfold kF; split
  ·exact .inr ⟨_, rfl⟩
  ·exact .inr ⟨_, rfl⟩
  ·exact .inl rfl
 have hup : Up G (G.set b g) := Up.set fun g0 h0 => by rw [hgb] at h0; obtain rfl := Option.some.inj h0; trivial
 have hfr : ∀ j, b + 1 ≤ j → j < (G.set b g).length → (G.set b g)[j]? = some .fresh := fun j hj hl => by
  rw [List.getElem?_set_ne (by omega)]; exact hI.fresh j (by omega) (by simpa using hl)
 have fin : ∀ {L : List Res}, St w0 M Z0 L (FZ s G tv) w' → L.Perm (a0 (s.heap.set b o) (G.set b g)) → iA (zn w0 Z0 s G) (kr w0 Z0 L) w w' →
    bA w0 M Z0 (b + 1) (G.set b g) ⟨s.tmps, s.heap.set b o⟩ tv w' ∧ iA (zn w0 Z0 s G) (zn w0 Z0 ⟨s.tmps, s.heap.set b o⟩ (G.set b g)) w w' := by
  intro L hs hp hk
  have hk' : iA (zn w0 Z0 s G) (kr w0 Z0 (a0 (s.heap.set b o) (G.set b g))) w w' := fun k hz hl => ⟨⟨(hk k hz hl).1.1, fun q hq' => (hk k hz hl).1.2 q (hp.mem_iff.2 hq')⟩, (hk k hz hl).2⟩
  refine ⟨⟨(hs.perm hp).kW (aY _ _ _) fun hh => ⟨hh.1.mono fun _ _ _ q => q.up hup, ?_⟩, hfr, hI.mz⟩, hk'⟩
  exact (ax.mono hh.2 fun _ _ _ q => q.up hup).set b (hro _ hk')
 rcases hone with h0 | ⟨q, h1⟩
 ·rw [h0, List.nil_append] at hin
  refine fin (hP.grow hg) hin fun k hz hl => ⟨⟨hz.1, fun q hq' => hz.2 q ?_⟩, hg.blk hl⟩
  exact (dH s.heap G b hdead hgb).mem_iff.2 (by rw [cU, List.nil_append]; exact hq')
 ·rw [h1] at hin
  have hqq := hq q (by rw [h1]; exact List.mem_cons_self ..)
  have hql : q.Local := sD o g q (by rw [h1]; exact List.mem_cons_self ..)
  refine fin (hP.push hg hql hqq.1 hqq.2) hin fun k hz hl => ⟨⟨hz.1, fun q' hq' => ?_⟩, hg.blk hl⟩
  rcases List.mem_cons.1 hq' with rfl | hq'
  ·intro hf; have := (hqq.2 k hf).1; omega
  ·exact hz.2 q' ((dH s.heap G b hdead hgb).mem_iff.2 (by rw [cU, List.nil_append]; exact hq'))
theorem bA.DS (hI : bA w0 M Z0 b G s tv w) {j : Nat} {o o' : av} {g g' : GO} {q q' : Res} (hj : s.heap[j]? = some o) (hgj : G[j]? = some g) (hne : g ≠ .fresh) (h1 : kF o g = [q]) (hx : Ext q.foot w w') (h1' : kF o' g' = [q'])
   (ho : q'.own w') (hf : ∀ k, q'.foot k → (q.foot k ∨ w.heap.size ≤ k) ∧ k < w'.heap.size) (hup : Up G (G.set j g'))
   (hro : ∀ Z', iA (zn w0 Z0 s G) Z' w w' → RO (G.set j g') Z' w' o' g') :
   bA w0 M Z0 b (G.set j g') ⟨s.tmps, s.heap.set j o'⟩ tv w' ∧ iA (zn w0 Z0 s G) (zn w0 Z0 ⟨s.tmps, s.heap.set j o'⟩ (G.set j g')) w w' := by
 have hjl := aF hj
 have hgl := aF hgj
 have hin := yT (h := s.heap) (G := G) o' g' hjl hgl
 have hP := hI.st.perm (dH s.heap G j hj hgj)
 rw [h1] at hP
 rw [h1'] at hin
 have hU : St w0 M Z0 (q' :: a0 (s.heap.set j .dead) (G.set j .gone)) (FZ s G tv) w' := by
  have := hP.upd (n := 0) (r := q) (r' := q') rfl hx (sD o' g' q' (by rw [h1']; exact List.mem_cons_self ..)) ho hf
  simpa using this
 have hk' : iA (zn w0 Z0 s G) (kr w0 Z0 (a0 (s.heap.set j o') (G.set j g'))) w w' := fun k hz hl => by
  have hqn : ¬ q.foot k := hz.2 q (mc hj hgj (by rw [h1]; exact List.mem_cons_self ..))
  refine ⟨⟨hz.1, fun p hp => ?_⟩, hx.block k hl hqn⟩
  rcases List.mem_cons.1 (hin.mem_iff.2 hp) with rfl | hp
  ·intro hf'
   rcases (hf k hf').1 with h2 | h2
   ·exact hqn h2
   ·omega
  ·exact hz.2 p ((dH s.heap G j hj hgj).mem_iff.2 (List.mem_append.2 (.inr hp)))
 refine ⟨⟨(hU.perm hin).kW (aY _ _ _) fun hh => ⟨hh.1.mono fun _ _ _ p => p.up hup, ?_⟩, fun i hi hl => ?_, hI.mz⟩, hk'⟩
 ·exact (ax.mono hh.2 fun _ _ _ p => p.up hup).set j (hro _ hk')
 ·have : j ≠ i := by
    rintro rfl
    have := hI.fresh j hi hgl
    rw [hgj] at this
    exact hne (Option.some.inj this)
  rw [List.getElem?_set_ne this]; exact hI.fresh i hi (by simpa using hl)
end
end Go.Ab
namespace Go.Ab
open Go Go.Dk
section
variable {P : Program} {w0 w w' : World} {M Z0 : bx} {b : Nat} {G : List GO} {s : AS} {tv : List Value} {r : List V1 × List av}
theorem Cp {X : Value} (h : uY X = true) : X.cells = #[X] := by cases X <;> first | rfl | (simp [uY] at h)
theorem oQ {Z : bx} {v : AV} {X : Value} {c : List SV} (h : v.cs = some c) (hx : RV G Z w v X) : ∃ xs : List Value, X.cells = xs.toArray ∧ ax (dh G Z w) c xs := by
 unfold AV.cs at h
 split at h
 ·cases h
 ·rename_i v hne
  obtain rfl := Option.some.inj h
  have h1 := hx.2 (fun e => hne (by rw [e]))
  exact ⟨[X], Cp h1, ax.cons ⟨hx.1, h1⟩ ax.nil⟩
 ·obtain rfl := Option.some.inj h
  obtain ⟨xs, rfl, hh⟩ := hx
  exact ⟨xs, rfl, hh⟩
 ·cases h
theorem wq {Z : bx} : ∀ {vs : List AV} {Xs : List Value} {cs : List (List SV)}, csL vs = some cs → ax (RV G Z w) vs Xs →
   ∃ xss : List (List Value), Xs.map Value.cells = xss.map List.toArray ∧ ax (ax (dh G Z w)) cs xss
 | [], Xs, cs, h, ha => by
  obtain rfl := ha.a7
  simp only [csL, Option.some.injEq] at h; subst h
  exact ⟨[], rfl, ax.nil⟩
 | v :: vs, Xs, cs, h, ha => by
  obtain ⟨X, Xs', rfl, h1, h2⟩ := ha.cons_inv
  simp only [csL] at h
  cases hv : v.cs with
  | none => simp [hv] at h
  | some c =>
   simp only [hv, Option.bind_some, Option.map_eq_some_iff] at h
   obtain ⟨cs', hcs, rfl⟩ := h
   obtain ⟨xs, he, hh⟩ := oQ hv h1
   obtain ⟨xss, he', hh'⟩ := wq hcs h2
   exact ⟨xs :: xss, by simp [he, he'], ax.cons hh hh'⟩
theorem bA.raise {b' : Nat} (hI : bA w0 M Z0 b G s tv w) (h : b ≤ b') : bA w0 M Z0 b' G s tv w := ⟨hI.st, fun j hj hl => hI.fresh j (Nat.le_trans h hj) hl, hI.mz⟩
theorem dh.mono {Z Z' : bx} {G' : List GO} {v : SV} {X : Value} (h : dh G Z w v X) (hk : iA Z Z' w w') (hu : Up G G') : dh G' Z' w' v X := ⟨(h.1.aP hk).up hu, h.2⟩
variable {ρ : Operand → Value} {x y : Operand} {d : Option Tmp} {ty t t' : TypeId} {pos : String} {aft : Array Edge} {gd : Option (Nat × Bool)} {vx vy : AV} {X : Value}
theorem AQ (hI : bA w0 M Z0 b G s tv w) (hb : b < G.length) {l : List SV} {xs : List Value} (ha : ax (dh G (zn w0 Z0 s G) w) l xs) (T : TypeId) :
   bA w0 M Z0 (b + 1) (G.set b (.cells w.heap.size T xs)) ⟨s.tmps, s.heap.set b (.cells l)⟩ tv (w.alloc (.cells xs.toArray T (0, 0))) ∧
   RV (G.set b (.cells w.heap.size T xs)) (zn w0 Z0 ⟨s.tmps, s.heap.set b (.cells l)⟩ (G.set b (.cells w.heap.size T xs))) (w.alloc (.cells xs.toArray T (0, 0))) (.v (.one (.ptr b 0))) (pv w.heap.size 0) ∧ Up G (G.set b (.cells w.heap.size T xs)) := by
 have hup : Up G (G.set b (.cells w.heap.size T xs)) := Up.set fun g0 h0 => by rw [hI.fresh b (Nat.le_refl _) hb] at h0; obtain rfl := Option.some.inj h0; trivial
 refine ⟨(hI.newObj hb (uZ.alloc _ _) (o := .cells l) (g := .cells w.heap.size T xs) (fun q hq => ?_) (fun Z' hk => ?_)).1, ⟨.inr ⟨w.heap.size, T, xs, by simp [hb], rfl⟩, fun _ => rfl⟩, hup⟩
 ·simp only [kF, List.mem_singleton] at hq
  subst hq
  refine ⟨pQ _ _, fun k hk => ?_⟩
  simp only [blk] at hk; subst hk; rw [kj]; omega
 ·exact ha.mono fun _ _ _ q => q.mono hk hup
theorem Fb {e : TypeId} {cs : List Value} (hz : oa P e = some cs) : (execOp ρ ⟨d, .alloc e, ty, pos, aft, gd⟩).run P w = .ok (.value (pv w.heap.size 0)) (w.alloc (.cells cs.toArray e (0, 0))) := by
 unfold oa at hz
 split at hz
 ·rename_i i hi
  split at hz
  ·rename_i z hzz
   obtain rfl := Option.some.inj hz
   have hzv : (zeroValue e).run P w = .ok z w := by
    simp only [zeroValue, Sem.run_bind, Go.Dk.run_typeInfo hi, Result.andThen_ok, hzz, Sem.run_pure]
   simp only [execOp, Instr.alloc, Sem.run_bind, hzv, sa, Result.andThen_ok, Sem.run_pure, Array.toArray_toList]
   rfl
  ·cases hz
 ·cases hz
theorem JD {e : TypeId} {cs : List Value} (hc : (ρ x).cells = cs.toArray) : (execOp ρ ⟨d, .box e x, ty, pos, aft, gd⟩).run P w = .ok (.value (pv w.heap.size 0)) (w.alloc (.cells cs.toArray e (0, 0))) := by
 simp only [execOp, Instr.box, Sem.run_bind, sa, hc, Result.andThen_ok, Sem.run_pure]
 rfl
theorem wi {e : TypeId} {z : List SV} (h : Ez P e = some z) : ∃ cs, oa P e = some cs ∧ ∀ G Z w, ax (dh G Z w) z cs := by
 unfold Ez at h
 cases hz : oa P e with
 | none => simp [hz] at h
 | some cs =>
  simp only [hz, Option.bind_some] at h
  cases hc : cs.all uY with
  | false => simp [hc] at h
  | true =>
   simp only [hc, cond_true, Option.some.injEq] at h
   subst h
   exact ⟨cs, rfl, fun G Z w => mH _ _ fun v hv => List.all_eq_true.1 hc v hv⟩
theorem jY {bb off : Nat} {T : TypeId} : ∀ (vs : List Value) (i : Nat) (cs : List Value) (w : World), w.heap[bb]? = some (.cells cs.toArray T (0, 0)) →
   (∀ v ∈ vs, uY v = true) → off + i + vs.length ≤ cs.length →
   ∃ w', (storeCells ⟨bb, off, none⟩ vs i).run P w = .ok () w' ∧ w'.heap[bb]? = some (.cells (jz cs (off + i) vs).toArray T (0, 0)) ∧ Ext (· = bb) w w'
 | [], i, cs, w, hn, _, _ => ⟨w, rfl, hn, Ext.refl _ _⟩
 | v :: vs, i, cs, w, hn, h1, hl => by
  simp only [List.length_cons] at hl
  have hlt : off + i < cs.length := by omega
  have hcell : w.cell? ⟨bb, off + i, none⟩ = some cs[off + i] := by simp [World.cell?, hn, hlt]
  have hfr : w.frozen? ⟨bb, off + i, none⟩ = false := by simp [World.frozen?, hn]
  have hn' : (w.setCell ⟨bb, off + i, none⟩ v).heap[bb]? = some (.cells (cs.set (off + i) v).toArray T (0, 0)) := by
   simp [World.setCell, Array.getElem?_modify, hn]
  obtain ⟨w', hr, hh, hx⟩ := jY (off := off) vs (i + 1) (cs.set (off + i) v) _ hn' (fun u hu => h1 u (List.mem_cons_of_mem _ hu)) (by simp; omega)
  refine ⟨w', ?_, hh, (Ext.setCell w ⟨bb, off + i, none⟩ v).trans hx⟩
  simp only [storeCells, kg, Sem.run_bind, store]
  rw [Go.Dk.run_store (h1 v (List.mem_cons_self ..)) hcell hfr]
  simp only [Sem.run, Result.andThen_ok]
  exact hr
theorem n7 {bb off m : Nat} {T : TypeId} {cs vs : List Value} (hX : ρ x = pv bb off) (hc : (ρ y).cells = vs.toArray) (hsz : (P.info? t).map (·.size) = some m) (hm : m = vs.length)
   (hn : w.heap[bb]? = some (.cells cs.toArray T (0, 0))) (h1 : ∀ v ∈ vs, uY v = true) (hl : off + vs.length ≤ cs.length) :
   ∃ w', (execOp ρ ⟨d, .store t x y, ty, pos, aft, gd⟩).run P w = .ok .skip w' ∧ w'.heap[bb]? = some (.cells (jz cs off vs).toArray T (0, 0)) ∧ Ext (· = bb) w w' := by
 obtain ⟨w', hr, hh, hx⟩ := jY (P := P) (off := off) vs 0 cs w hn h1 (by simpa using hl)
 refine ⟨w', ?_, by simpa using hh, hx⟩
 cases hi : P.info? t with
 | none => simp [hi] at hsz
 | some i =>
  simp only [hi, Option.map_some, Option.some.injEq] at hsz
  have hne : ¬ (vs.toArray.size ≠ i.size) := by rw [hsz, hm]; simp
  simp only [execOp, Instr.storeAt, hX, pv, Instr.sureAddr, storeVar, Sem.run_bind, Sem.run_pure, Result.andThen_ok, Go.Dk.run_sizeOf hi, if_neg hne, hc, hr]
theorem yU {R : SV → Value → Prop} : ∀ {c : List SV} {ys : List Value} {l : List SV} {vs : List Value} {off : Nat}, ax R l vs → ax R c ys → ax R (JN l off c) (jz vs off ys)
 | [], ys, l, vs, off, hl, hc => by obtain rfl := hc.a7; exact hl
 | x :: c, ys, l, vs, off, hl, hc => by
  obtain ⟨y, ys', rfl, h1, h2⟩ := hc.cons_inv
  show ax R (JN (l.set off x) (off + 1) c) (jz (vs.set off y) (off + 1) ys')
  exact yU (hl.set off h1) h2
theorem ch.length {Z : bx} {e : SE} {cs : List Value} {k : SK} (h : ch Z w e cs) (hk : e.kind = k) : cs.length = k.size := by
 subst hk
 cases e with
 | t x => obtain ⟨t, _, _, rfl⟩ := h; rfl
 | i n => simp only [ch] at h; subst h; rfl
 | ii l => obtain ⟨x, rfl, _⟩ := h; rfl
 | s x => simp only [ch] at h; subst h; rfl
 | b c => simp only [ch] at h; subst h; rfl
theorem IT {Z : bx} {l : List SV} {xs : List Value} (h : ax (dh G Z w) l xs) : ∀ v ∈ xs, uY v = true := fun v hv => by
 obtain ⟨i, hi⟩ := List.getElem?_of_mem hv
 obtain ⟨a, _, hr⟩ := h.get' hi
 exact hr.2
theorem wJ (n : Nat) : ∀ (vs cs : List Value) (off : Nat), (jz cs off vs).take n = jz (cs.take n) off vs
 | [], cs, off => rfl
 | v :: vs, cs, off => by
  simp only [jz]
  rw [wJ n vs, List.take_set]
theorem uO {α : Type} (f : α → Value) (l : List α) (i : Nat) (x : α) : jz (l.map f) i [f x] = (l.set i x).map f := by
 simp [jz, List.map_set]
theorem xm : ∀ (hs : List HT) (i : Nat) (t : HT), jz (gM hs) (i * 3) [.int .i64 t.k, .int .i64 t.n, t.sl] = gM (hs.set i t)
 | [], i, t => by simp [gT, jz]
 | h :: hs, 0, t => by rw [bR]; simp [jz, bR]
 | h :: hs, i + 1, t => by
  have := xm hs i t
  rw [bR, List.set_cons_succ, bR, ← this]
  rw [show (i + 1) * 3 = i * 3 + 1 + 1 + 1 by omega]
  simp [jz]
theorem aI.set {Z : bx} {D : SD} {xs cs : List Value} {e : SE} {i : Nat} {k : SD → OR} (hd : aI Z w D xs) (hc : ch Z w e cs) (h : D.set i e k = some r) :
   ∃ D', k D' = some r ∧ D'.len = D.len ∧ D'.kind = D.kind ∧ aI Z w D' (jz xs (i * D.kind.size) cs) := by
 unfold SD.set at h
 split at h
 ·obtain ⟨hs, rfl, rfl, hr⟩ := hd
  obtain ⟨t, rfl, ht, rfl⟩ := hc
  refine ⟨_, h, by simp [SD.len], rfl, hs.set i t, by rw [List.map_set], xm hs i t, fun u hu => ?_⟩
  rcases List.mem_or_eq_of_mem_set hu with hu | rfl
  ·exact hr u hu
  ·exact ht
 ·simp only [aI, ch] at hd hc; subst hd hc
  exact ⟨_, h, by simp [SD.len], rfl, by simp only [SD.kind, SK.size, Nat.mul_one]; exact uO _ _ _ _⟩
 ·obtain ⟨X, rfl, hX⟩ := hc
  exact ⟨_, h, by simp [SD.len], rfl, by simp only [SD.kind, SK.size, Nat.mul_one]; exact ax.set hd i hX⟩
 ·simp only [aI, ch] at hd hc; subst hd hc
  exact ⟨_, h, by simp [SD.len], rfl, by simp only [SD.kind, SK.size, Nat.mul_one]; exact uO _ _ _ _⟩
 ·simp only [aI, ch] at hd hc; subst hd hc
  exact ⟨_, h, by simp [SD.len], rfl, by simp only [SD.kind, SK.size, Nat.mul_one]; exact uO (fun c : UInt8 => Value.int .u8 (c.toNat : Int)) _ _ _⟩
 ·cases h
theorem fD {e sz n m c : Nat} {a : Option Addr} {xs : List Value} (h : c ≠ 0) : kn e sz (.slice a n c) m xs = Cr e sz (.slice a n c) m xs := by
 unfold kn
 split
 ·rename_i he; injection he with _ _ h3; exact absurd h3 h
 ·rfl
theorem gA {e sz n m : Nat} {a : Option Addr} {xs : List Value} : kn e sz (.slice a n 0) m xs = ⟨fun _ => False, fun _ => m = 0 ∧ xs = [] ∧ (.slice a n 0 : Value) = .slice a 0 0⟩ := rfl
theorem bA.row (hI : bA w0 M Z0 b G s tv w) {j : Nat} {e : TypeId} {D : SD} {ver : Nat} (hj : s.heap[j]? = some (.arr e D ver false)) :
   ∃ val xs, G[j]? = some (.arr ver val D.kind.size xs) ∧ aI (zn w0 Z0 s G) w D xs ∧ (∃ a c, val = .slice a D.len c) ∧ (kn e D.kind.size val D.len xs).own w := by
 obtain ⟨val, xs, hg, h1, h2⟩ := hI.arr (v := 0) hj
 exact ⟨val, xs, hg, h1, h2, hI.st.own _ (mc hj hg (by simp [kF]))⟩
theorem KQ {Z Z' : bx} (h : ∀ k, Z k ↔ Z' k) (hx : Ext Z w w') : Ext Z' w w' := hx.kW fun k _ hk => (h k).1 hk
theorem sW (hI : bA w0 M Z0 b G s tv w) {k : List av → OR} (hx : RV G (zn w0 Z0 s G) w vx (ρ x)) (hy : RV G (zn w0 Z0 s G) w vy (ρ y)) (h : pC P t vx vy s.heap k = some r) :
   ∃ h' G' w', k h' = some r ∧ (execOp ρ ⟨d, .store t x y, ty, pos, aft, gd⟩).run P w = .ok .skip w' ∧ bA w0 M Z0 b G' ⟨s.tmps, h'⟩ tv w' ∧ h'.length = s.heap.length ∧ Up G G' := by
 unfold pC at h
 split at h
 ·rename_i m hsz
  replace h := bind_some h; obtain ⟨yc, hyc, h⟩ := h
  obtain ⟨ys, hcells, hys⟩ := oQ hyc hy
  split at h
  ·rename_i j off
   split at h
   ·rename_i l hj
    replace h := au h; obtain ⟨hm, h⟩ := h
    simp only [Bool.and_eq_true, Nat.beq_eq, Nat.ble_eq] at hm
    obtain ⟨bb, T, vs, hg, ha, _, hmem⟩ := hI.cells hj
    have hown : w.heap[bb]? = some (.cells vs.toArray T (0, 0)) := hI.st.own _ hmem
    obtain ⟨w', hr, hh, hext⟩ := n7 (P := P) (t := t) (d := d) (ty := ty) (pos := pos) (aft := aft) (gd := gd) (lj hx.1 hg) hcells hsz (by rw [hm.1, hys.1]) hown (IT hys) (by rw [← hys.1, ← ha.1]; omega)
    have hup : Up G (G.set j (.cells bb T (jz vs off ys))) := Up.set fun g0 h0 => by rw [hg] at h0; obtain rfl := Option.some.inj h0; rfl
    have hu := hI.DS (o' := .cells (JN l off yc)) (g' := .cells bb T (jz vs off ys)) (q := blk bb vs T) (q' := blk bb (jz vs off ys) T) hj hg nofun rfl hext rfl hh
     (fun k hk => ⟨.inl hk, by simp only [blk] at hk; subst hk; exact wB hh⟩) hup
     (fun Z' hk => (yU ha hys).mono fun _ _ _ q => q.mono hk hup)
    exact ⟨_, _, w', h, hr, hu.1, by simp, hup⟩
   ·cases h
  ·rename_i j v i
   replace h := gO hI hys h; obtain ⟨c, h', h, hs, hc⟩ := h
   split at h
   ·rename_i e D ver hj
    replace h := au h; obtain ⟨hm, h⟩ := h
    simp only [Bool.and_eq_true, Nat.beq_eq] at hm
    obtain ⟨rfl, rfl⟩ := hm
    replace h := nG hc h; obtain ⟨el, h, hcr, hek, hone⟩ := h
    have hI' := hs.inv
    obtain ⟨val, xs, hg, hel, ⟨a, cc, hval⟩, hrow⟩ := hI'.row hj
    obtain ⟨bb, off, n, c', hv, hi, hX⟩ := FQ hx.1 hg
    replace h := aI.set hel hcr h; obtain ⟨D', h, hlen, hkind, hset⟩ := h
    rw [hv] at hval
    injection hval with e1 e2 e3
    subst e1 e2 e3
    have hclen := hcr.length hek
    have hrow' := hrow
    rw [hv] at hrow'
    have hc0 : c' ≠ 0 := by
     rintro rfl
     rw [gA] at hrow'
     have := hrow'.1; omega
    rw [fD hc0] at hrow'
    obtain ⟨rfl, _, _⟩ := sv hrow' rfl
    simp only [Cr] at hrow'
    obtain ⟨hxl, hrow'⟩ := hrow'
    rcases hrow' with ⟨hh, _⟩ | ⟨g, cap, cur, hh, _, hgg, hnc, hcm, hcs, htake⟩
    ·cases hh
    ·injection hh with e1 _ e3
     injection e1 with e1
     injection e1 with e1 _
     subst e1 e3
     have hcl : cur.toList.length = c' * D.kind.size := by rw [Array.length_toList, hcs]
     have hbd : i * D.kind.size + ys.length ≤ D.len * D.kind.size := by
      rw [hclen, ← Nat.succ_mul]; exact Nat.mul_le_mul_right _ hi
     have hbd2 : D.len * D.kind.size ≤ c' * D.kind.size := Nat.mul_le_mul_right _ hnc
     obtain ⟨w', hr, hh, hext⟩ := n7 (P := P) (t := t) (d := d) (ty := ty) (pos := pos) (aft := aft) (gd := gd) (bb := bb) (cs := cur.toList) (off := i * D.kind.size) (by rw [hX]; simp) hcells hsz hclen.symm (by simpa using hgg) hone (by rw [hcl]; omega)
     have hup : Up G (G.set j (.arr v val D.kind.size (jz xs (i * D.kind.size) ys))) := Up.set fun g0 h0 => by rw [hg] at h0; obtain rfl := Option.some.inj h0; exact ⟨rfl, .inr ⟨rfl, rfl⟩⟩
     have hu := hI'.DS (o' := .arr e D' v false) (g' := .arr v val D.kind.size (jz xs (i * D.kind.size) ys)) (q := kn e D.kind.size val D.len xs) (q' := kn e D.kind.size val D'.len (jz xs (i * D.kind.size) ys)) hj hg nofun rfl
      (by rw [hv, fD hc0]; exact KQ (fun k => by simp only [Cr, Value.ownBlock]; exact ⟨fun h => by rw [h], fun h => (Option.some.inj h).symm⟩) hext) rfl
      (by
       rw [hv, fD hc0, hlen]
       simp only [Cr]
       refine ⟨by rw [iR]; exact hxl, .inr ⟨bb, c', _, rfl, Nat.zero_le _, hh, hnc, hcm, by simp [iR, hcl], ?_⟩⟩
       simp only [List.toList_toArray]
       rw [← htake, wJ])
      (by
       rw [hv, fD hc0, fD hc0]
       intro k hk
       refine ⟨.inl hk, ?_⟩
       simp only [Cr, Value.ownBlock] at hk
       obtain rfl := Option.some.inj hk
       exact wB hh) hup
      (fun Z' hk => ⟨rfl, hkind.symm ▸ rfl, hset.aP hk, by rw [hlen]; exact ⟨_, _, hv⟩⟩)
     exact ⟨_, _, w', h, hr, hu.1, by rw [List.length_set]; have := hs.inv.len; have := hI.len; simp at *; omega, hup⟩
   ·cases h
  ·cases h
 ·cases h
end
end Go.Ab
end
