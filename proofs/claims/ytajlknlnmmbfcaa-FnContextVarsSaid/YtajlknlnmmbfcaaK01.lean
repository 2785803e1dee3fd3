/- Part 1 of the proof. -/
import Derived.WalkKit
import Derived.OrdersHeld
import Derived.Deep.LoopGhost
import Derived.KernelRfl
import Derived.Laws.Tables
import Derived.Laws.AppendOwn
import Derived.ArgAppend
import Derived.Laws.MakeOwn
import Derived.Test.YtajlknlnmmbfcaaRows
set_option linter.unusedVariables false
set_option linter.unusedSimpArgs false
section
namespace Go.Dk
open Go
section
variable {P : Program} {ops : Array Oper} {Q : Exit → Act → World → Prop}
end
end Go.Dk
namespace Go.Dk
open Go
abbrev bn := Nat → Prop
abbrev Fact := bn → World → Prop
def lR (φ : Fact) : Prop := ∀ (Z Z' : bn) (w w' : World), (∀ b, Z b → b < w.heap.size → Z' b ∧ w'.heap[b]? = w.heap[b]?) → φ Z w → φ Z' w'
structure Ext (M : bn) (w w' : World) : Prop where
 os : w'.os = w.os
 tape : w'.tape = w.tape
 output : w'.output = w.output
 size : w.heap.size ≤ w'.heap.size
 block : ∀ k, k < w.heap.size → ¬ M k → w'.heap[k]? = w.heap[k]?
def CD : bn := fun _ => False
abbrev r4 := Ext CD
theorem Ext.refl (M : bn) (w : World) : Ext M w w := ⟨rfl, rfl, rfl, Nat.le_refl _, fun _ _ _ => rfl⟩
theorem Ext.trans {M : bn} {a b c : World} (h : Ext M a b) (k : Ext M b c) : Ext M a c :=
 ⟨k.os.trans h.os, k.tape.trans h.tape, k.output.trans h.output, Nat.le_trans h.size k.size, fun i hi hm => (k.block i (Nat.lt_of_lt_of_le hi h.size) hm).trans (h.block i hi hm)⟩
theorem Ext.jv {M M' : bn} {a b : World} (h : Ext M a b) (hm : ∀ k, k < a.heap.size → M k → M' k) : Ext M' a b :=
 ⟨h.os, h.tape, h.output, h.size, fun i hi hn => h.block i hi (fun hk => hn (hm i hi hk))⟩
theorem r4.jv {M : bn} {a b : World} (h : r4 a b) : Ext M a b := Ext.jv h (fun _ _ h => h.elim)
theorem r4.blk {a b : World} (h : r4 a b) {k : Nat} (hk : k < a.heap.size) : b.heap[k]? = a.heap[k]? := h.block k hk (fun h => h)
theorem r4.below {a b : World} (h : r4 a b) : RowKit.Below a.heap.size a b := ⟨h.os, h.tape, h.output, h.size, fun k hk => h.blk hk⟩
theorem iS (w : World) (o : Obj) : (w.alloc o).heap.size = w.heap.size + 1 := by
 show (w.heap.push o).size = _; simp
theorem mT (w : World) (o : Obj) : (w.alloc o).heap[w.heap.size]? = some o := by
 show (w.heap.push o)[w.heap.size]? = _; simp
theorem r4.alloc (w : World) (o : Obj) : r4 w (w.alloc o) :=
 ⟨rfl, rfl, rfl, by rw [iS]; omega, fun _ hk _ => RowKit.Below.heap_alloc _ _ _ hk⟩
theorem tb {w : World} {b : Nat} {o : Obj} (h : w.heap[b]? = some o) : b < w.heap.size := by
 rcases Nat.lt_or_ge b w.heap.size with h' | h'
 ·exact h'
 ·rw [Array.getElem?_eq_none h'] at h; cases h
structure Res where
 foot : bn
 own : World → Prop
def Res.Local (r : Res) : Prop := ∀ w w' : World, (∀ b, r.foot b → w'.heap[b]? = w.heap[b]?) → r.own w → r.own w'
def blk (b : Nat) (cs : List Value) (T : TypeId) : Res := ⟨(· = b), fun w => w.heap[b]? = some (.cells cs.toArray T (0, 0))⟩
theorem sk (b : Nat) (cs : List Value) (T : TypeId) : (blk b cs T).Local := fun _ _ h k => (h b rfl).trans k
def jc (w0 : World) (Z0 : bn) (L : List Res) : bn := fun b => (Z0 b ∨ w0.heap.size ≤ b) ∧ ∀ r ∈ L, ¬ r.foot b
structure St (w0 : World) (M Z0 : bn) (L : List Res) (φ : Fact) (w : World) : Prop where
 ext : Ext M w0 w
 own : ∀ r ∈ L, r.own w
 loc : ∀ r ∈ L, r.Local
 key : ∀ r ∈ L, ∀ b, r.foot b → (M b ∨ w0.heap.size ≤ b) ∧ b < w.heap.size
 dis : L.Pairwise (fun r s => ∀ b, r.foot b → ¬ s.foot b)
 stab : lR φ
 per : φ (jc w0 Z0 L) w
section
variable {w0 w w' : World} {M Z0 : bn} {L : List Res} {φ : Fact}
theorem St.init (w : World) (M Z0 : bn) {φ : Fact} (hs : lR φ) (h : φ Z0 w) : St w M Z0 [] φ w :=
 ⟨Ext.refl _ _, nofun, nofun, nofun, .nil, hs, hs Z0 _ w w (fun _ hz _ => ⟨⟨.inl hz, nofun⟩, rfl⟩) h⟩
theorem St.grow (h : St w0 M Z0 L φ w) (hg : r4 w w') : St w0 M Z0 L φ w' :=
 ⟨h.ext.trans hg.jv, fun r hr => h.loc r hr w _ (fun b hb => hg.blk (h.key r hr b hb).2) (h.own r hr), h.loc,
  fun r hr b hb => ⟨(h.key r hr b hb).1, Nat.lt_of_lt_of_le (h.key r hr b hb).2 hg.size⟩, h.dis, h.stab,
  h.stab _ _ w _ (fun b hz hb => ⟨hz, hg.blk hb⟩) h.per⟩
def HW (ψ φ : Fact) : Fact := fun Z w => ψ Z w ∧ φ Z w
theorem lR.and {ψ φ : Fact} (h : lR ψ) (k : lR φ) : lR (HW ψ φ) := fun Z Z' w w' hz hp => ⟨h Z Z' w w' hz hp.1, k Z Z' w w' hz hp.2⟩
theorem St.push (h : St w0 M Z0 L φ w) (hg : r4 w w') {r : Res} (hl : r.Local) (ho : r.own w') (hf : ∀ b, r.foot b → w.heap.size ≤ b ∧ b < w'.heap.size) : St w0 M Z0 (r :: L) φ w' := by
 have k := h.grow hg
 refine ⟨k.ext, ?_, ?_, ?_, ?_, k.stab, ?_⟩
 ·intro s hs; rcases List.mem_cons.1 hs with rfl | hs
  ·exact ho
  ·exact k.own s hs
 ·intro s hs; rcases List.mem_cons.1 hs with rfl | hs
  ·exact hl
  ·exact k.loc s hs
 ·intro s hs b hb; rcases List.mem_cons.1 hs with rfl | hs
  ·exact ⟨.inr (Nat.le_trans h.ext.size (hf b hb).1), (hf b hb).2⟩
  ·exact k.key s hs b hb
 ·refine List.Pairwise.cons (fun s hs b hb hb' => ?_) k.dis
  have := (h.key s hs b hb').2
  have := (hf b hb).1
  omega
 ·refine h.stab _ _ w w' (fun b hz hb => ⟨⟨hz.1, fun s hs hf' => ?_⟩, hg.blk hb⟩) h.per
  rcases List.mem_cons.1 hs with rfl | hs
  ·have := (hf b hf').1; omega
  ·exact hz.2 s hs hf'
theorem St.upd (h : St w0 M Z0 L φ w) {n : Nat} {r r' : Res} (hn : L[n]? = some r) (hx : Ext r.foot w w') (hl : r'.Local) (ho : r'.own w')
   (hf : ∀ b, r'.foot b → (r.foot b ∨ w.heap.size ≤ b) ∧ b < w'.heap.size) : St w0 M Z0 (L.set n r') φ w' := by
 have hnl : n < L.length := by
  rcases Nat.lt_or_ge n L.length with h' | h'
  ·exact h'
  ·rw [List.getElem?_eq_none h'] at hn; cases hn
 have hmem : r ∈ L := List.mem_of_getElem? hn
 have hget : L[n] = r := by rw [List.getElem?_eq_getElem hnl] at hn; exact Option.some.inj hn
 have disj : ∀ i (hi : i < L.length), i ≠ n → ∀ b, r.foot b → ¬ L[i].foot b := by
  intro i hi hne b hb hb'
  rcases Nat.lt_or_ge i n with hlt | hge
  ·have := List.pairwise_iff_getElem.1 h.dis i n hi hnl hlt b hb'
   rw [hget] at this; exact this hb
  ·have := List.pairwise_iff_getElem.1 h.dis n i hnl hi (by omega) b (by rw [hget]; exact hb)
   exact this hb'
 have new : ∀ b, w.heap.size ≤ b → w0.heap.size ≤ b := fun b hb => Nat.le_trans h.ext.size hb
 have F2 : ∀ i (hi : i < L.length), i ≠ n → L[i].own w' := by
  intro i hi hne
  refine h.loc _ (List.getElem_mem hi) w w' (fun b hb => hx.block b (h.key _ (List.getElem_mem hi) b hb).2 (fun hr => disj i hi hne b hr hb)) (h.own _ (List.getElem_mem hi))
 have el : ∀ s ∈ L.set n r', s = r' ∨ ∃ i, ∃ hi : i < L.length, i ≠ n ∧ s = L[i] := by
  intro s hs
  obtain ⟨i, hi, rfl⟩ := List.getElem_of_mem hs
  simp only [List.length_set] at hi
  by_cases hin : n = i
  ·subst hin; left; simp
  ·right; exact ⟨i, hi, fun e => hin e.symm, by rw [List.getElem_set_ne hin]⟩
 refine ⟨?_, ?_, ?_, ?_, ?_, h.stab, ?_⟩
 ·refine ⟨hx.os.trans h.ext.os, hx.tape.trans h.ext.tape, hx.output.trans h.ext.output, Nat.le_trans h.ext.size hx.size, fun k hk hm => ?_⟩
  rw [hx.block k (Nat.lt_of_lt_of_le hk h.ext.size) (fun hr => ?_), h.ext.block k hk hm]
  rcases (h.key r hmem k hr).1 with h1 | h1
  ·exact hm h1
  ·omega
 ·intro s hs; rcases el s hs with rfl | ⟨i, hi, hne, rfl⟩
  ·exact ho
  ·exact F2 i hi hne
 ·intro s hs; rcases el s hs with rfl | ⟨i, hi, hne, rfl⟩
  ·exact hl
  ·exact h.loc _ (List.getElem_mem hi)
 ·intro s hs b hb; rcases el s hs with rfl | ⟨i, hi, hne, rfl⟩
  ·refine ⟨?_, (hf b hb).2⟩
   rcases (hf b hb).1 with h1 | h1
   ·exact (h.key r hmem b h1).1
   ·exact .inr (new b h1)
  ·exact ⟨(h.key _ (List.getElem_mem hi) b hb).1, Nat.lt_of_lt_of_le (h.key _ (List.getElem_mem hi) b hb).2 hx.size⟩
 ·rw [List.pairwise_iff_getElem]
  intro i j hi hj hij b hb hb'
  simp only [List.length_set] at hi hj
  by_cases hin : n = i
  ·subst hin
   rw [List.getElem_set_self] at hb
   rw [List.getElem_set_ne (by omega)] at hb'
   rcases (hf b hb).1 with h1 | h1
   ·exact disj j hj (by omega) b h1 hb'
   ·have := (h.key _ (List.getElem_mem hj) b hb').2; omega
  ·rw [List.getElem_set_ne hin] at hb
   by_cases hjn : n = j
   ·subst hjn
    rw [List.getElem_set_self] at hb'
    rcases (hf b hb').1 with h1 | h1
    ·exact disj i hi (by omega) b h1 hb
    ·have := (h.key _ (List.getElem_mem hi) b hb).2; omega
   ·rw [List.getElem_set_ne hjn] at hb'
    exact List.pairwise_iff_getElem.1 h.dis i j hi hj hij b hb hb'
 ·refine h.stab _ _ w w' (fun b hz hb => ⟨⟨hz.1, fun s hs hf' => ?_⟩, hx.block b hb (hz.2 r hmem)⟩) h.per
  rcases el s hs with rfl | ⟨i, hi, hne, rfl⟩
  ·rcases (hf b hf').1 with h1 | h1
   ·exact hz.2 r hmem h1
   ·omega
  ·exact hz.2 _ (List.getElem_mem hi) hf'
theorem St.drop (h : St w0 M Z0 L φ w) (n : Nat) : St w0 M Z0 (L.eraseIdx n) φ w := by
 have sub : ∀ s ∈ L.eraseIdx n, s ∈ L := fun s hs => List.mem_of_mem_eraseIdx hs
 exact ⟨h.ext, fun s hs => h.own s (sub s hs), fun s hs => h.loc s (sub s hs), fun s hs => h.key s (sub s hs), h.dis.sublist (List.eraseIdx_sublist L n), h.stab,
  h.stab _ _ w w (fun b hz _ => ⟨⟨hz.1, fun s hs => hz.2 s (sub s hs)⟩, rfl⟩) h.per⟩
theorem St.cell (h : St w0 M Z0 L φ w) {n b off : Nat} {cs : List Value} {T : TypeId} {v : Value} (hn : L[n]? = some (blk b cs T)) (hv : cs[off]? = some v) : w.cell? ⟨b, off, none⟩ = some v := by
 have := h.own _ (List.mem_of_getElem? hn)
 simp only [blk] at this
 simp [World.cell?, this, hv]
theorem St.alloc (h : St w0 M Z0 L φ w) (cs : List Value) (T : TypeId) : St w0 M Z0 (blk w.heap.size cs T :: L) φ (w.alloc (.cells cs.toArray T (0, 0))) :=
 h.push (r4.alloc _ _) (sk _ _ _) (mT _ _) (by intro b hb; simp only [blk] at hb; subst hb; rw [iS]; omega)
theorem Ext.setCell (w : World) (a : Addr) (v : Value) : Ext (· = a.block) w (w.setCell a v) :=
 ⟨rfl, rfl, rfl, by simp [World.setCell], fun _ _ hm => RowKit.Below.heap_setCell _ _ _ _ hm⟩
end
end Go.Dk
namespace Go.Dk
open Go
structure Yld (P : Program) (S : World → Prop) (ρ : Operand → Value) (o : Oper) (v : Value) : Prop where
 out : ∀ w, S w → (execOp ρ o).run P w = .ok (.value v) w
def rW (P : Program) (t : TypeId) : Bool := match P.underlying t with | some (.struct _) | some (.array ..) | none => false | _ => true
def kZ (P : Program) (t : TypeId) : Option Nat := match P.underlying t, P.info? t with | some (.struct _), some i => some i.size | _, _ => none
def jW (P : Program) (t : TypeId) (i : Nat) : Option Nat := match P.underlying t with
 | some (.struct fs) => match fs[i]? with
  | some f => match P.info? f.type with
   | some inf => if inf.size = 0 then none else some f.offset
   | none => none
  | none => none
 | _ => none
def jo (P : Program) (t : TypeId) : Option Nat := match P.underlying t with
 | some (.slice e) => match P.info? e with
  | some inf => some inf.size
  | none => none
 | _ => none
def ly (P : Program) (t : TypeId) : Bool := match P.underlying t with | some .string => true | _ => false
def ba (s : ByteArray) (i : Nat) : UInt8 := (s.data.toList[i]?).getD 0
theorem run_underlying {P : Program} {t : TypeId} {de : TypeDesc} (h : P.underlying t = some de) (w : World) : (underlying t).run P w = .ok de w := by
 show (Sem.run P (match P.underlying t with | some d => pure d | none => stuck "no such type") w) = _
 rw [h]; rfl
theorem run_typeInfo {P : Program} {t : TypeId} {i : TypeInfo} (h : P.info? t = some i) (w : World) : (typeInfo t).run P w = .ok i w := by
 show (Sem.run P (match P.info? t with | some d => pure d | none => stuck "no such type") w) = _
 rw [h]; rfl
theorem run_sizeOf {P : Program} {t : TypeId} {i : TypeInfo} (h : P.info? t = some i) (w : World) : (sizeOf t).run P w = .ok i.size w := by
 simp [go_sem, sizeOf, run_typeInfo h]
theorem run_equal_bool {P : Program} {t : TypeId} (h : P.underlying t = some .bool) (a b : Bool) (w : World) : (Op.equal t (.bool a) (.bool b)).run P w = .ok (decide (a = b)) w := by
 unfold Op.equal Op.maxDepth
 rw [show (10000 : Nat) = 9999 + 1 from rfl, Op.equalIn, Sem.run_bind, run_underlying h]
 cases a <;> cases b <;> rfl
section
variable {P : Program} {S : World → Prop} {ρ : Operand → Value} {d : Option Tmp} {ty : TypeId} {pos : String} {aft : Array Edge} {gd : Option (Nat × Bool)} {x y c : Operand} {t t' : TypeId}
theorem G8 {u : Value} (h : ρ x = u) : Yld P S ρ ⟨d, .move x, ty, pos, aft, gd⟩ u := .mk fun _ _ => by simp [go_sem, execOp, h]
theorem Cu {u : Value} (h : ρ x = u) : Yld P S ρ ⟨d, .assign x, ty, pos, aft, gd⟩ u := .mk fun _ _ => by simp [go_sem, execOp, h]
theorem EC {u : Value} (hc : ρ c = .bool true) (hx : ρ x = u) : Yld P S ρ ⟨d, .pick c x y, ty, pos, aft, gd⟩ u := .mk fun _ _ => by
 simp [go_sem, execOp, hc, hx, asBool]
theorem El {u : Value} (hc : ρ c = .bool false) (hy : ρ y = u) : Yld P S ρ ⟨d, .pick c x y, ty, pos, aft, gd⟩ u := .mk fun _ _ => by
 simp [go_sem, execOp, hc, hy, asBool]
theorem yz {a : Addr} (h : ρ x = .pointer (some a)) : Yld P S ρ ⟨d, .nilCheck x, ty, pos, aft, gd⟩ (.pointer (some a)) := .mk fun _ _ => by simp [go_sem, execOp, h]
theorem vG {f first cap} (h : ρ x = .func (.func f) first cap) : Yld P S ρ ⟨d, .nilCheck x, ty, pos, aft, gd⟩ (.func (.func f) first cap) := .mk fun _ _ => by simp [go_sem, execOp, h]
theorem GI {a b : Bool} (hx : ρ x = .bool a) (hy : ρ y = .bool b) (ht : P.underlying t = some .bool) : Yld P S ρ ⟨d, .binOp .eql t x y t', ty, pos, aft, gd⟩ (.bool (decide (a = b))) := .mk fun _ _ => by
 simp [execOp, hx, hy, eqGuard, binOp, Sem.run_bind, run_equal_bool ht]
theorem GP {a b : Bool} (hx : ρ x = .bool a) (hy : ρ y = .bool b) (ht : P.underlying t = some .bool) : Yld P S ρ ⟨d, .binOp .neq t x y t', ty, pos, aft, gd⟩ (.bool (!decide (a = b))) := .mk fun _ _ => by
 simp [execOp, hx, hy, eqGuard, binOp, Sem.run_bind, run_equal_bool ht]
theorem Gl {a b : ByteArray} (hx : ρ x = .string a) (hy : ρ y = .string b) : Yld P S ρ ⟨d, .binOp .eql t x y t', ty, pos, aft, gd⟩ (.bool (a.toList == b.toList)) := .mk fun _ _ => by
 simp [go_sem, execOp, hx, hy, eqGuard, binOp, Op.stringOp]
theorem GY {a b : ByteArray} (hx : ρ x = .string a) (hy : ρ y = .string b) : Yld P S ρ ⟨d, .binOp .neq t x y t', ty, pos, aft, gd⟩ (.bool (!(a.toList == b.toList))) := .mk fun _ _ => by
 simp [go_sem, execOp, hx, hy, eqGuard, binOp, Op.stringOp]
theorem FD {a b : ByteArray} (hx : ρ x = .string a) (hy : ρ y = .string b) (h : a.size + b.size ≤ 9223372036854775807) : Yld P S ρ ⟨d, .binOp .add t x y t', ty, pos, aft, gd⟩ (.string (a ++ b)) := .mk fun _ _ => by
 have h' : ¬ ((a.size + b.size : Nat) : Int) > IntKind.i64.max := by
  have : IntKind.i64.max = 9223372036854775807 := rfl
  omega
 simp only [go_sem, execOp, hx, hy, eqGuard, binOp, Op.stringOp, if_neg h']
 simp [go_sem]
theorem CQ {a : ByteArray} (hs : ly P t = true) (h : ρ x = .string a) : Yld P S ρ ⟨d, .call ⟨.builtin .len, #[x], #[t]⟩, ty, pos, aft, gd⟩ (.int .i64 (a.size : Int)) := .mk fun _ _ => by
 have hu : P.underlying t = some .string := by unfold ly at hs; split at hs <;> simp_all
 simp [execOp, resolve, invoke, builtin, Builtin.len_, h, Sem.run_bind, run_underlying hu, goInt]
theorem pH {a : Option Addr} {n cap m : Nat} (hs : jo P t = some m) (h : ρ x = .slice a n cap) : Yld P S ρ ⟨d, .call ⟨.builtin .len, #[x], #[t]⟩, ty, pos, aft, gd⟩ (.int .i64 (n : Int)) := .mk fun _ _ => by
 unfold jo at hs
 split at hs
 ·rename_i e hu
  simp [execOp, resolve, invoke, builtin, Builtin.len_, h, Sem.run_bind, run_underlying hu, goInt]
 ·cases hs
theorem jt {b off k i : Nat} (hf : jW P t i = some k) (h : ρ x = .pointer (some ⟨b, off, none⟩)) : Yld P S ρ ⟨d, .fieldAddr t x i, ty, pos, aft, gd⟩ (.pointer (some ⟨b, off + k, none⟩)) := .mk fun _ _ => by
 unfold jW at hf
 split at hf
 ·rename_i fs hu
  split at hf
  ·rename_i f hfi
   split at hf
   ·rename_i inf hi
    split at hf
    ·cases hf
    ·rename_i hz
     obtain rfl := Option.some.inj hf
     simp only [execOp, Instr.fieldAt, h, Sem.run_bind, run_underlying hu, Result.andThen_ok, hfi, Instr.sureAddr, fieldPlace, run_sizeOf hi, if_neg hz, Addr.add, Sem.run_pure]
     by_cases h0 : f.offset = 0
     ·simp [h0]
     ·simp [h0]
   ·cases hf
  ·cases hf
 ·cases hf
theorem mR {b off len cap m : Nat} {i : Int} (hs : jo P t = some m) (h : ρ x = .slice (some ⟨b, off, none⟩) len cap) (hi : ρ y = .int .i64 i) (hb : 0 ≤ i ∧ i < len) : Yld P S ρ ⟨d, .indexAddr t x y, ty, pos, aft, gd⟩ (.pointer (some ⟨b, off + i.toNat * m, none⟩)) := .mk fun _ _ => by
 unfold jo at hs
 split at hs
 ·rename_i e hu
  split at hs
  ·rename_i inf hin
   obtain rfl := Option.some.inj hs
   have hc : 0 ≤ i ∧ i < (len : Int) := hb
   simp only [execOp, Instr.indexAt, asIntOf, h, hi, Sem.run_bind, Sem.run_pure, run_underlying hu, Result.andThen_ok, if_pos hc, run_sizeOf hin, Addr.add]
   by_cases h0 : i.toNat * inf.size = 0
   ·simp [h0]
   ·simp [h0]
  ·cases hs
 ·cases hs
theorem yM {a : ByteArray} {k : IntKind} {i : Int} (hs : ly P t = true) (h : ρ x = .string a) (hi : ρ y = .int k i) (hb : 0 ≤ i ∧ i.toNat < a.size) : Yld P S ρ ⟨d, .index t x y, ty, pos, aft, gd⟩ (.int .u8 ((ba a i.toNat).toNat : Int)) := .mk fun _ _ => by
 have hu : P.underlying t = some .string := by unfold ly at hs; split at hs <;> simp_all
 have hg : a[i.toNat]? = some (a[i.toNat]'hb.2) := by rw [getElem?_pos a i.toNat hb.2]
 have hv : ((ba a i.toNat).toNat : Int) = ((a[i.toNat]'hb.2).toNat : Int) := by
  have hb2 : i.toNat < a.data.toList.length := by simpa using hb.2
  unfold ba; rw [List.getElem?_eq_getElem hb2]; rfl
 simp [execOp, Instr.index, asIntOf, h, hi, Sem.run_bind, run_underlying hu, hb.1, hg, hv]
theorem AI {vs : Array Value} {i : Nat} {u : Value} (h : ρ x = .tuple vs) (hv : vs[i]? = some u) : Yld P S ρ ⟨d, .extract x i, ty, pos, aft, gd⟩ u := .mk fun _ _ => by
 simp [go_sem, execOp, Instr.extract, h, hv]
theorem y9 {fn : Fn} {first cap : List Operand} {vf vc : List Value} (hf : first.map ρ = vf) (hc : cap.map ρ = vc) : Yld P S ρ ⟨d, .makeFunc fn first.toArray cap.toArray, ty, pos, aft, gd⟩ (.func fn vf.toArray vc.toArray) := .mk fun _ _ => by
 simp [go_sem, execOp, Instr.makeFunc, ← hf, ← hc]
end
theorem HG (l : List Value) (ds : List Deferred) (t : Tmp) : Act.eval ⟨l.toArray, ds⟩ (.tmp t) = l.getD t undef := by
 show (l.toArray).getD t undef = _
 simp [List.getD]
section
variable {P : Program} {ops : Array Oper} {Q : Exit → Act → World → Prop} {dr : Bool} {S : World → Prop} {fu k : Nat} {o : Oper} {rest : List (Nat × Oper)} {a : Act} {w : World}
def sv (P : Program) (f : FuncId) : Bool := match P.funcs[f]? with
 | some fn => fn.name != "runtime.NumGoroutine" && fn.body.isSome
 | none => false
theorem tJ {f : FuncId} (h : sv P f = true) (args : Array Value) (w : World) : (callFunc f args).run P w = .ok (.enter f args) w := by
 unfold sv at h
 split at h
 ·rename_i fn hf
  simp only [Bool.and_eq_true, bne_iff_ne, ne_eq] at h
  simp [go_sem, callFunc, hf, h.1]
  intro hn
  simp [hn] at h
 ·cases h
theorem oe {ρ : Operand → Value} {f : FuncId} {x : Operand} {first cap : Array Value} {xs : Array Operand} {ats : Array TypeId} {d : Option Tmp} {ty : TypeId} {pos : String} {aft : Array Edge} {gd : Option (Nat × Bool)}
   (hx : ρ x = .func (.func f) first cap) (hf : sv P f = true) (w : World) :
   (execOp ρ ⟨d, .call ⟨.value x, xs, ats⟩, ty, pos, aft, gd⟩).run P w = .ok (.enter f (first ++ xs.map ρ ++ cap)) w := by
 simp only [execOp, resolve, hx, Deferred.ofValue, Sem.run_bind, Sem.run_pure, Result.andThen_ok, invoke, tJ hf]
end
section
variable {P : Program} {ops : Array Oper} {Q : Exit → Act → World → Prop} {dr : Bool} {fu k : Nat} {rest : List (Nat × Oper)} {a : Act} {w w0 : World} {M Z0 : bn} {L : List Res} {φ : Fact}
 {d : Option Tmp} {ty : TypeId} {pos : String} {aft : Array Edge} {gd : Option (Nat × Bool)} {x y : Operand} {t t' : TypeId}
theorem St.tail {r : Res} (h : St w0 M Z0 (r :: L) φ w) : St w0 M Z0 L φ w := by simpa using h.drop 0
theorem pI (P : Program) (t : TypeId) (v : Value) (w : World) : (newVar t v).run P w = .ok ⟨w.heap.size, 0, none⟩ (w.alloc (.cells v.cells t (0, 0))) := rfl
def me (P : Program) (t : TypeId) : Option (List Value) := match P.info? t with
 | some i => match i.zero with
  | some z => some z.cells.toList
  | none => none
 | none => none
def gV (cs : List Value) (off : Nat) : List Value → List Value
 | [] => cs
 | v :: vs => gV (cs.set off v) (off + 1) vs
def r5 : Value → Bool
 | .agg _ | .tuple _ => false
 | _ => true
theorem run_store {b off : Nat} {v u : Value} {w : World} {kk : Sem Unit} (h1 : r5 v = true) (hc : w.cell? ⟨b, off, none⟩ = some u) (hf : w.frozen? ⟨b, off, none⟩ = false) :
   (Sem.store .plain ⟨b, off, none⟩ v kk).run P w = kk.run P (w.setCell ⟨b, off, none⟩ v) := by
 cases v <;> first | (simp [r5] at h1; done) | simp [Sem.run, hc, hf]
theorem iO (b off i : Nat) : Addr.add ⟨b, off, none⟩ i = ⟨b, off + i, none⟩ := by
 unfold Addr.add; split
 ·rename_i h; subst h; rfl
 ·rfl
end
end Go.Dk
namespace Go.Dk
open Go
inductive HT where
 | mk (k n : Int) (a : Option Addr) (cap : Nat) (kids : List HT)
inductive T where
 | mk (k n : Int) (kids : List T)
namespace HT
def k : HT → Int | .mk k _ _ _ _ => k
def n : HT → Int | .mk _ n _ _ _ => n
def a : HT → Option Addr | .mk _ _ a _ _ => a
def cap : HT → Nat | .mk _ _ _ c _ => c
def kids : HT → List HT | .mk _ _ _ _ ts => ts
def val (t : HT) : Value := .agg #[.int .i64 t.k, .int .i64 t.n, .slice t.a t.kids.length t.cap]
mutual
def er : HT → T | .mk k n _ _ ts => .mk k n (erL ts)
def erL : List HT → List T | [] => [] | t :: ts => er t :: erL ts
end
theorem DH (ts : List HT) : erL ts = ts.map er := by induction ts with | nil => rfl | cons t ts ih => simp [erL, ih]
end HT
namespace T
def k : T → Int | .mk k _ _ => k
def n : T → Int | .mk _ n _ => n
def kids : T → List T | .mk _ _ ts => ts
end T
theorem HT.H4 (t : HT) : t.er.k = t.k := by cases t; rfl
theorem HT.H3 (t : HT) : t.er.n = t.n := by cases t; rfl
theorem HT.E4 (t : HT) : t.er.kids = t.kids.map HT.er := by cases t; simp [HT.er, T.kids, HT.kids, HT.DH]
mutual
def Rd (Z : bn) (w : World) : HT → Prop
 | .mk _ _ a cap kids => (kids = [] ∨ ∃ b off, a = some ⟨b, off, none⟩ ∧ Z b ∧ RdL Z w b off kids) ∧ kids.length ≤ cap ∧ kids.length ≤ 9223372036854775807
def RdL (Z : bn) (w : World) (b off : Nat) : List HT → Prop
 | [] => True
 | t :: ts => (w.cell? ⟨b, off, none⟩ = some (.int .i64 t.k) ∧ w.cell? ⟨b, off + 1, none⟩ = some (.int .i64 t.n) ∧ w.cell? ⟨b, off + 2, none⟩ = some (.slice t.a t.kids.length t.cap)) ∧ Rd Z w t ∧ RdL Z w b (off + 3) ts
end
theorem AG {w : World} {b off : Nat} {v : Value} (h : w.cell? ⟨b, off, none⟩ = some v) : b < w.heap.size := World.block_lt_of_cell? w _ h
theorem kc {w w' : World} {b off : Nat} (h : w'.heap[b]? = w.heap[b]?) : w'.cell? ⟨b, off, none⟩ = w.cell? ⟨b, off, none⟩ := by
 simp only [World.cell?, h]
mutual
theorem Rd.aM (Z Z' : bn) (w w' : World) (hz : ∀ b, Z b → b < w.heap.size → Z' b ∧ w'.heap[b]? = w.heap[b]?) : ∀ t, Rd Z w t → Rd Z' w' t
 | .mk _ _ a cap kids, h => by
  simp only [Rd] at h ⊢
  refine ⟨?_, h.2⟩
  rcases h.1 with h1 | ⟨b, off, ha, hb, hl⟩
  ·exact .inl h1
  ·cases kids with
   | nil => exact .inl rfl
   | cons t ts =>
    have hlt : b < w.heap.size := by simp only [RdL] at hl; exact AG hl.1.1
    exact .inr ⟨b, off, ha, (hz b hb hlt).1, RdL.aM Z Z' w w' hz b off (hz b hb hlt).2 _ hl⟩
theorem RdL.aM (Z Z' : bn) (w w' : World) (hz : ∀ b, Z b → b < w.heap.size → Z' b ∧ w'.heap[b]? = w.heap[b]?) (b off : Nat) (hk : w'.heap[b]? = w.heap[b]?) : ∀ ts, RdL Z w b off ts → RdL Z' w' b off ts
 | [], _ => by simp [RdL]
 | t :: ts, h => by
  simp only [RdL] at h ⊢
  exact ⟨⟨(kc hk).trans h.1.1, (kc hk).trans h.1.2.1, (kc hk).trans h.1.2.2⟩, Rd.aM Z Z' w w' hz t h.2.1, RdL.aM Z Z' w w' hz b (off + 3) hk ts h.2.2⟩
end
end Go.Dk
namespace Go.Dk
open Go
def iF (tmps : Array Value) : ResultVar → Sem Value
 | .tmp t => pure (tmps.getD t undef)
 | .cell a t => do loadVar t (← asAddr (tmps.getD a undef))
theorem yE (fn : Func) (tmps : Array Value) : results fn tmps = (do let vs ← fn.results.mapM (iF tmps); pure (if h : vs.size = 1 then vs[0] else .tuple vs)) := by
 have : (fun r => iF tmps r) = (fun (r : ResultVar) => (match r with | .tmp t => pure (tmps.getD t undef) | .cell a t => do loadVar t (← asAddr (tmps.getD a undef)) : Sem Value)) := by
  funext r; cases r <;> rfl
 show _ = (do let vs ← fn.results.mapM (fun r => iF tmps r); pure (if h : vs.size = 1 then vs[0] else .tuple vs))
 rw [this]; rfl
section
variable {P : Program} {fn : Func} {tmps : List Value} {w : World}
theorem HK {t : Tmp} {v : Value} (h : tmps.getD t undef = v) : (iF tmps.toArray (.tmp t)).run P w = .ok v w := by
 have : tmps.toArray.getD t undef = v := by simpa [List.getD] using h
 simp only [iF, this, Sem.run_pure]
theorem Gx {a : Tmp} {t : TypeId} {ad : Addr} {v : Value} (h : tmps.getD a undef = .pointer (some ad)) (hl : (loadVar t ad).run P w = .ok v w) : (iF tmps.toArray (.cell a t)).run P w = .ok v w := by
 have : tmps.toArray.getD a undef = .pointer (some ad) := by simpa [List.getD] using h
 simp only [iF, this, asAddr, Sem.run_bind, Sem.run_pure, Result.andThen_ok, hl]
end
end Go.Dk
namespace Go.Dk
end Go.Dk
namespace Go.Dk
theorem St.get {w0 w : World} {M Z0 : bn} {L : List Res} {φ : Fact} (h : St w0 M Z0 L φ w) {n b : Nat} {cs : List Value} {T : TypeId} (hn : L[n]? = some (blk b cs T)) : w.heap[b]? = some (.cells cs.toArray T (0, 0)) := h.own _ (List.mem_of_getElem? hn)
end Go.Dk
namespace Go.Dk
theorem HT.ind {motive : HT → Prop} (h : ∀ t : HT, (∀ u ∈ t.kids, motive u) → motive t) (t : HT) : motive t :=
 h t (fun u hu => HT.ind h u)
 termination_by SizeOf.sizeOf t
 decreasing_by
 cases t
 simp only [HT.kids] at hu
 have := List.sizeOf_lt_of_mem hu
 simp only [HT.mk.sizeOf_spec]
 omega
theorem T.ind {motive : T → Prop} (h : ∀ t : T, (∀ u ∈ t.kids, motive u) → motive t) (t : T) : motive t :=
 h t (fun u hu => T.ind h u)
 termination_by SizeOf.sizeOf t
 decreasing_by
 cases t
 simp only [T.kids] at hu
 have := List.sizeOf_lt_of_mem hu
 simp only [T.mk.sizeOf_spec]
 omega
end Go.Dk
namespace Go.Dk
end Go.Dk
namespace Go.Dk
open Go
section
variable {P : Program} {S : World → Prop} {ρ : Operand → Value} {d : Option Tmp} {ty : TypeId} {pos : String} {aft : Array Edge} {gd : Option (Nat × Bool)} {x y c lo hi : Operand} {t t' : TypeId}
def Hr (s : ByteArray) (c : UInt8) : Int := match s.data.toList.findIdx? (· == c) with
 | some i => (i : Int)
 | none => -1
theorem ym (s : ByteArray) (c : UInt8) : ((List.range s.size).find? fun i => s[i]! == c) = s.data.toList.findIdx? (· == c) := by
 have hs : s.size = s.data.toList.length := by simp
 have hg : ∀ i, i < s.size → s[i]! = s.data.toList[i]?.getD 0 := by
  intro i hi
  rw [getElem!_pos s i hi]
  have hb2 : i < s.data.toList.length := by rw [← hs]; exact hi
  rw [List.getElem?_eq_getElem hb2]; rfl
 generalize hl : s.data.toList = l at *
 rw [hs]
 have hg' : ∀ i, i < l.length → s[i]! = l[i]?.getD 0 := fun i hi => hg i (by rw [hs]; exact hi)
 cases hf : l.findIdx? (· == c) with
 | none =>
  rw [List.find?_eq_none]
  intro i hi
  simp only [List.mem_range] at hi
  rw [List.findIdx?_eq_none_iff] at hf
  rw [hg' i hi, List.getElem?_eq_getElem hi]
  have := hf l[i] (List.getElem_mem hi)
  simpa using this
 | some k =>
  rw [List.findIdx?_eq_some_iff_getElem] at hf
  obtain ⟨hk, hp, hlt⟩ := hf
  rw [List.find?_range_eq_some]
  refine ⟨by rw [hg' k hk, List.getElem?_eq_getElem hk]; simpa using hp, by simpa using hk, fun j hj => ?_⟩
  rw [hg' j (by omega), List.getElem?_eq_getElem (by omega)]
  simpa using hlt j hj
def jZ (P : Program) (f : FuncId) : Prop := ∃ fn, P.funcs[f]? = some fn ∧ (fn.name == "runtime.NumGoroutine") = false ∧ fn.body.isNone = true ∧ Extern.findNext fn = none ∧ Extern.find fn = some Extern.BytealgIndexByte.indexByte
theorem vp {f : FuncId} {s : ByteArray} {b : UInt8} {ats : Array TypeId} (hf : jZ P f) (hx : ρ x = .string s) (hy : ρ y = .int .u8 (b.toNat : Int)) (hff : ρ (.func f) = .func (.func f) #[] #[]) :
   Yld P S ρ ⟨d, .call ⟨.value (.func f), #[x, y], ats⟩, ty, pos, aft, gd⟩ (.int .i64 (Hr s b)) := .mk fun w _ => by
 obtain ⟨fn, h1, h2, h3, h4, h5⟩ := hf
 have hr : (Extern.BytealgIndexByte.indexByte #[.string s, .int .u8 (b.toNat : Int)]).run P w = .ok (.int .i64 (Hr s b)) w := by
  rw [run_indexByte_string]
  have hb : ((b.toNat : Int).toNat).toUInt8 = b := by simp
  unfold Hr firstIdx
  rw [hb, ym]
  cases s.data.toList.findIdx? (· == b) <;> rfl
 simp only [execOp, resolve, hff, Deferred.ofValue, Sem.run_bind, Sem.run_pure, Result.andThen_ok, invoke]
 rw [show (#[] : Array Value) ++ #[x, y].map ρ ++ #[] = #[.string s, .int .u8 (b.toNat : Int)] by simp [hx, hy]]
 rw [run_callFunc_extern h1 h2 h3 h4 h5]
 rw [hr]; rfl
end
end Go.Dk
namespace Go.Dk
open Go
theorem gv : ∀ (vs cs : List Value) (off : Nat), (gV cs off vs).length = cs.length
 | [], cs, off => rfl
 | v :: vs, cs, off => by simp [gV, gv vs]
theorem wM : ∀ (vs cs : List Value) (off i : Nat), off + vs.length ≤ cs.length → (gV cs off vs)[i]? = if off ≤ i ∧ i < off + vs.length then vs[i - off]? else cs[i]?
 | [], cs, off, i, _ => by simp [gV]; omega
 | v :: vs, cs, off, i, h => by
  simp only [List.length_cons] at h
  rw [gV, wM vs _ _ _ (by simp; omega)]
  by_cases h1 : off + 1 ≤ i ∧ i < off + 1 + vs.length
  ·rw [if_pos h1, if_pos (by simp; omega), show i - off = (i - (off + 1)) + 1 by omega, List.getElem?_cons_succ]
  ·rw [if_neg h1]
   by_cases h2 : i = off
   ·subst h2; rw [if_pos (by simp), List.getElem?_set_self (by omega)]; simp
   ·rw [if_neg (by simp; omega), List.getElem?_set_ne (by omega)]
theorem sD (xs : List Value) : ∀ (k off : Nat) (A : Array Value), ((xs.zipIdx k).foldl (fun cs (p : Value × Nat) => cs.setIfInBounds (off + p.2) p.1) A).toList = gV A.toList (off + k) xs := by
 induction xs with
 | nil => intro k off A; rfl
 | cons x xs ih =>
  intro k off A
  simp only [List.zipIdx_cons, List.foldl_cons]
  rw [ih]
  simp [gV, Nat.add_assoc]
def fD : Nat → List Value → List (Nat × Value)
 | _, [] => []
 | k, v :: vs => (k, v) :: fD (k + 1) vs
def lZ (vs : List Value) : List Value := vs.flatMap (fun v => v.cells.toList)
theorem qk (size : Nat) : ∀ (vs : List Value) (k : Nat) (A : Array Value), (∀ v ∈ vs, v.cells.size = size) → (k + vs.length) * size ≤ A.size →
   ∃ B, Instr.fill (fun i => some (i * size, size)) A (fD k vs) = some B ∧ B.toList = gV A.toList (k * size) (lZ vs)
 | [], k, A, _, _ => ⟨A, rfl, rfl⟩
 | v :: vs, k, A, hv, hs => by
  have h1 : v.cells.size = size := hv v (List.mem_cons_self ..)
  simp only [List.length_cons] at hs
  have hle : k * size + size ≤ A.size := by
   have : (k + 1) * size ≤ (k + (vs.length + 1)) * size := Nat.mul_le_mul_right _ (by omega)
   rw [Nat.add_mul, Nat.one_mul] at this; omega
  simp only [fD, Instr.fill]
  rw [if_neg (by simp [h1]; omega)]
  have hf : (v.cells.zipIdx.foldl (fun cs (p : Value × Nat) => cs.setIfInBounds (k * size + p.2) p.1) A).toList = gV A.toList (k * size) v.cells.toList := by
   have := sD v.cells.toList 0 (k * size) A
   simp only [Nat.add_zero] at this
   rw [← this]
   congr 1
   rw [← Array.foldl_toList]
   simp
  obtain ⟨B, hB, hl⟩ := qk size vs (k + 1) (v.cells.zipIdx.foldl (fun cs (p : Value × Nat) => cs.setIfInBounds (k * size + p.2) p.1) A) (fun u hu => hv u (List.mem_cons_of_mem _ hu)) (by
   have : (v.cells.zipIdx.foldl (fun cs (p : Value × Nat) => cs.setIfInBounds (k * size + p.2) p.1) A).size = A.size := by
    rw [← Array.length_toList, hf, gv, Array.length_toList]
   rw [this, show k + 1 + vs.length = k + (vs.length + 1) by omega]; exact hs)
  refine ⟨B, hB, ?_⟩
  rw [hl, hf]
  simp only [lZ, List.flatMap_cons]
  have happ : ∀ (a b cs : List Value) (off : Nat), gV (gV cs off a) (off + a.length) b = gV cs off (a ++ b) := by
   intro a
   induction a with
   | nil => intro b cs off; rfl
   | cons x a ih => intro b cs off; simp only [gV, List.length_cons, List.cons_append]; rw [← ih, show off + 1 + a.length = off + (a.length + 1) by omega]
  rw [← happ, show (k + 1) * size = k * size + v.cells.toList.length by rw [Array.length_toList, h1, Nat.add_mul, Nat.one_mul]]
theorem C4 (vs cs : List Value) (h : vs.length = cs.length) : gV cs 0 vs = vs := by
 apply List.ext_getElem?
 intro i
 rw [wM _ _ _ _ (by omega)]
 split
 ·simp
 ·rw [List.getElem?_eq_none (by omega), List.getElem?_eq_none (by omega)]
theorem ic (size : Nat) : ∀ vs : List Value, (∀ v ∈ vs, v.cells.size = size) → (lZ vs).length = vs.length * size
 | [], _ => by simp [lZ]
 | v :: vs, h => by
  have := ic size vs (fun u hu => h u (List.mem_cons_of_mem _ hu))
  simp only [lZ, List.flatMap_cons, List.length_append, Array.length_toList, List.length_cons] at this ⊢
  rw [this, h v (List.mem_cons_self ..), Nat.add_mul, Nat.one_mul, Nat.add_comm]
def Hf (P : Program) (t : TypeId) : Option TypeId := match P.underlying t with | some (.slice e) => some e | _ => none
section
variable {P : Program} {ops : Array Oper} {Q : Exit → Act → World → Prop} {dr : Bool} {fu k : Nat} {rest : List (Nat × Oper)} {a : Act} {w w0 : World} {M Z0 : bn} {L : List Res} {φ : Fact}
 {d : Option Tmp} {ty : TypeId} {pos : String} {aft : Array Edge} {gd : Option (Nat × Bool)} {x y : Operand} {t t' : TypeId}
end
section
variable {P : Program} {ρ : Operand → Value} {w0 : World} {M Z0 : bn} {L : List Res} {φ : Fact} {d : Option Tmp} {ty : TypeId} {pos : String} {aft : Array Edge} {gd : Option (Nat × Bool)} {x : Operand} {t t' : TypeId}
end
end Go.Dk
namespace Go.Dk
open Go
theorem jR (f : Operand → Value) : ∀ (ps : List (Nat × Operand)) (k : Nat), ps.map (·.1) = List.range' k ps.length → ps.map (fun p => (p.1, f p.2)) = fD k (ps.map (fun p => f p.2))
 | [], _, _ => rfl
 | p :: ps, k, h => by
  simp only [List.map_cons, List.length_cons, List.range'_succ, List.cons.injEq] at h
  simp only [List.map_cons, fD, List.cons.injEq]
  exact ⟨by rw [h.1], jR f ps (k + 1) h.2⟩
section
variable {P : Program} {ops : Array Oper} {Q : Exit → Act → World → Prop} {dr : Bool} {fu k : Nat} {rest : List (Nat × Oper)} {a : Act} {w w0 : World} {M Z0 : bn} {L : List Res} {φ : Fact}
 {d : Option Tmp} {ty : TypeId} {pos : String} {aft : Array Edge} {gd : Option (Nat × Bool)} {x y : Operand} {t t' : TypeId}
end
end Go.Dk
namespace Go.Dk
open Go
class FO (P : Program) (t : TypeId) (i : Nat) (k : outParam Nat) : Prop where out : jW P t i = some k
class SL (P : Program) (t : TypeId) (m : outParam Nat) : Prop where out : jo P t = some m
class SC (P : Program) (t : TypeId) : Prop where out : rW P t = true
class ST3 (P : Program) (t : TypeId) : Prop where out : kZ P t = some 3
class oZ (P : Program) (t : TypeId) : Prop where out : ly P t = true
class F7 (P : Program) (t : TypeId) : Prop where out : P.underlying t = some .bool
class F6 (P : Program) (t : TypeId) : Prop where out : P.underlying t = some (.int .i64)
class HZ (P : Program) (t : TypeId) : Prop where out : P.underlying t = some (.int .u8)
class FX (P : Program) (t : TypeId) : Prop where out : ∃ k, P.underlying t = some (.int k)
class SZ (P : Program) (t : TypeId) (m : outParam Nat) : Prop where out : (P.info? t).map (·.size) = some m
class ZR (P : Program) (t : TypeId) (cs : outParam (List Value)) : Prop where out : me P t = some cs
class EB (P : Program) (t : TypeId) (e sz : outParam Nat) : Prop where out : Hf P t = some e ∧ (P.info? e).map (·.size) = some sz ∧ (me P e).isSome = true
class CB (P : Program) (f : FuncId) : Prop where out : sv P f = true
class XIB (P : Program) (f : FuncId) : Prop where out : jZ P f
class CV (P : Program) (t t' : TypeId) : Prop where out : ∃ e, Hf P t = some e ∧ P.underlying e = some (.int .u8) ∧ ly P t' = true
class DrM (P : Program) : Prop where out : P.follows .mixedOrders = true
instance (P : Program) (t : TypeId) [h : F6 P t] : FX P t := ⟨_, h.out⟩
instance (P : Program) (t : TypeId) [h : HZ P t] : FX P t := ⟨_, h.out⟩
structure H8 (a : Int) : Prop where
 lo : -9223372036854775808 ≤ a
 hi : a ≤ 9223372036854775807
structure In8 (a : Int) : Prop where
 lo : 0 ≤ a
 hi : a ≤ 255
structure Dv (a b : Int) : Prop where
 lo : 0 ≤ a
 mx : a ≤ 9223372036854775807
 hi : 0 < b
section
variable {P : Program} {S : World → Prop} {ρ : Operand → Value} {d : Option Tmp} {ty : TypeId} {pos : String} {aft : Array Edge} {gd : Option (Nat × Bool)} {x y c : Operand} {t t' : TypeId}
end
structure Ix (i n : Int) : Prop where
 lo : 0 ≤ i
 hi : i < n
structure Le (i n : Int) : Prop where
 lo : 0 ≤ i
 hi : i ≤ n
inductive At (b : Nat) : List Res → List Value → TypeId → Prop
 | here {cs T L} : At b (blk b cs T :: L) cs T
 | there {r cs T L} (h : At b L cs T) : At b (r :: L) cs T
theorem At.get {b : Nat} {L : List Res} {cs : List Value} {T : TypeId} (h : At b L cs T) : ∃ n : Nat, L[n]? = some (blk b cs T) := by
 induction h with
 | here => exact ⟨0, rfl⟩
 | there _ ih => obtain ⟨n, hn⟩ := ih; exact ⟨n + 1, by simpa using hn⟩
inductive DW (S : World → Prop) (b off : Nat) (v : Value) : Prop
 | mk (h : ∀ w, S w → w.cell? ⟨b, off, none⟩ = some v)
theorem DW.own {w0 : World} {M Z0 : bn} {L : List Res} {φ : Fact} {b off : Nat} {cs : List Value} {T : TypeId} {v : Value} (h : At b L cs T) (hv : cs[off]? = some v) : DW (St w0 M Z0 L φ) b off v := by
 obtain ⟨n, hn⟩ := h.get
 exact ⟨fun w hw => hw.cell hn hv⟩
inductive F5 (S : World → Prop) (b off : Nat) (v0 v1 v2 : Value) : Prop
 | mk (h : ∀ w, S w → w.cell? ⟨b, off, none⟩ = some v0 ∧ w.cell? ⟨b, off + 1, none⟩ = some v1 ∧ w.cell? ⟨b, off + 2, none⟩ = some v2)
theorem F5.own {w0 : World} {M Z0 : bn} {L : List Res} {φ : Fact} {b off : Nat} {cs : List Value} {T : TypeId} {v0 v1 v2 : Value} (h : At b L cs T) (h0 : cs[off]? = some v0) (h1 : cs[off + 1]? = some v1) (h2 : cs[off + 2]? = some v2) : F5 (St w0 M Z0 L φ) b off v0 v1 v2 := by
 obtain ⟨n, hn⟩ := h.get
 exact ⟨fun w hw => ⟨hw.cell hn h0, hw.cell hn h1, hw.cell hn h2⟩⟩
def plT (P : Program) (t : TypeId) : Option (List (Nat × Nat)) := match P.underlying t with
 | some (.struct fs) => fs.toList.mapM fun f => (P.info? f.type).map fun i => (f.offset, i.size)
 | _ => none
class BT (P : Program) (t : TypeId) : Prop where
 pl : plT P t = some [(0, 1), (1, 1), (2, 1)]
 zero : me P t = some [.int .i64 0, .int .i64 0, .slice none 0 0]
section
variable {P : Program} {ops : Array Oper} {Q : Exit → Act → World → Prop} {dr : Bool} {S : World → Prop} {fu k : Nat} {rest : List (Nat × Oper)} {a : Act} {w w0 : World} {M Z0 : bn} {L : List Res} {φ : Fact}
 {d : Option Tmp} {op : Op} {ty : TypeId} {pos : String} {aft : Array Edge} {gd : Option (Nat × Bool)} {t : TypeId} {x y : Operand}
inductive Upd (b : Nat) (f : List Value → List Value) : List Res → List Res → List Value → Prop
 | here {cs T L} : Upd b f (blk b cs T :: L) (blk b (f cs) T :: L) cs
 | there {r L L' cs} (h : Upd b f L L' cs) : Upd b f (r :: L) (r :: L') cs
theorem Upd.get {b : Nat} {f : List Value → List Value} {L L' : List Res} {cs : List Value} (h : Upd b f L L' cs) : ∃ n T, L[n]? = some (blk b cs T) ∧ L' = L.set n (blk b (f cs) T) := by
 induction h with
 | here => exact ⟨0, _, rfl, rfl⟩
 | there _ ih => obtain ⟨n, T, h1, h2⟩ := ih; exact ⟨n + 1, T, by simpa using h1, by simp [h2]⟩
end
end Go.Dk
end
section
namespace Go.Dk
open Go
section
variable {w0 w w' : World} {M Z0 : bn} {L L' : List Res} {φ : Fact} {r s r' : Res}
theorem St.perm (h : St w0 M Z0 L φ w) (hp : L.Perm L') : St w0 M Z0 L' φ w :=
 ⟨h.ext, fun r hr => h.own r (hp.mem_iff.2 hr), fun r hr => h.loc r (hp.mem_iff.2 hr), fun r hr => h.key r (hp.mem_iff.2 hr),
  (hp.pairwise_iff (fun {a b} hab x hx hx' => hab x hx' hx)).1 h.dis, h.stab,
  h.stab _ _ w w (fun b hz _ => ⟨⟨hz.1, fun r hr => hz.2 r (hp.mem_iff.2 hr)⟩, rfl⟩) h.per⟩
end
def HT.sl (t : HT) : Value := .slice t.a t.kids.length t.cap
def HT.head : Option Addr → List HT → List Nat
 | some ad, _ :: _ => [ad.block]
 | _, _ => []
mutual
def HT.blocks : HT → List Nat
 | .mk _ _ a _ kids => HT.head a kids ++ HT.zG kids
def HT.zG : List HT → List Nat
 | [] => []
 | t :: ts => HT.blocks t ++ HT.zG ts
end
def Unf (w : World) (b : Nat) : Prop := ∃ cs T, w.heap[b]? = some (.cells cs T (0, 0))
def HB (t : HT) : Res := ⟨(· ∈ t.blocks), fun w => Rd (fun _ => True) w t ∧ t.blocks.Nodup ∧ ∀ b ∈ t.blocks, Unf w b⟩
structure Own (w w' : World) (t : HT) : Prop where
 own : (HB t).own w'
 new : ∀ b ∈ t.blocks, w.heap.size ≤ b
section
variable {w0 w w' : World} {M Z0 : bn} {L : List Res} {φ : Fact}
end
def fo (ts : List HT) : List Value := lZ (ts.map HT.val)
theorem fH : fo [] = [] := rfl
theorem bH (t : HT) (ts : List HT) : fo (t :: ts) = .int .i64 t.k :: .int .i64 t.n :: t.sl :: fo ts := rfl
theorem lV (ts us : List HT) : fo (ts ++ us) = fo ts ++ fo us := by simp [fo, lZ]
theorem sF (ts : List HT) : (fo ts).length = ts.length * 3 := by
 rw [fo, ic 3 _ (by intro v hv; obtain ⟨t, _, rfl⟩ := List.mem_map.1 hv; rfl)]; simp
theorem lP {Z : bn} {w : World} {b : Nat} : ∀ (ts : List HT) (off : Nat), (∀ j u, (fo ts)[j]? = some u → w.cell? ⟨b, off + j, none⟩ = some u) → (∀ t ∈ ts, Rd Z w t) → RdL Z w b off ts
 | [], _, _, _ => by simp [RdL]
 | t :: ts, off, hc, hr => by
  simp only [RdL]
  rw [bH] at hc
  refine ⟨⟨by simpa using hc 0 _ rfl, hc 1 _ rfl, hc 2 _ rfl⟩, hr t (by simp), lP ts (off + 3) (fun j u hj => ?_) (fun x hx => hr x (by simp [hx]))⟩
  rw [Nat.add_assoc, Nat.add_comm 3 j]
  exact hc (j + 3) u (by simpa using hj)
theorem E0 {Z : bn} {w : World} {k n : Int} {a : Option Addr} {cap : Nat} : Rd Z w (.mk k n a cap []) := by
 simp [Rd]
section
variable {w0 w w' : World} {M Z0 : bn} {L : List Res} {φ : Fact}
end
def yw (e size : Nat) (v : Value) (n : Nat) (xs : List Value) : Res := ⟨fun b => v.ownBlock = some b, fun w => w.ownsRow 0 e size v n xs⟩
theorem yS (e size : Nat) (v : Value) (n : Nat) (xs : List Value) : (yw e size v n xs).Local := by
 intro w w' h k
 simp only [yw] at k h ⊢
 refine ⟨k.1, ?_⟩
 rcases k.2 with h1 | ⟨g, cap, cur, rfl, h2, h3, h4⟩
 ·exact .inl h1
 ·exact .inr ⟨g, cap, cur, rfl, h2, (h g rfl).trans h3, h4⟩
theorem nD {w w' : World} {v : Value} (h : w.grownBy w' v.ownBlock) : Ext (fun b => v.ownBlock = some b) w w' :=
 ⟨h.os, h.tape, h.output, h.size, fun k hk hm => h.block k hk (fun e => hm e.symm)⟩
class AP (P : Program) (t : TypeId) (e sz by_ : outParam Nat) : Prop where
 out : P.underlying t = some (.slice e) ∧ ∃ i z, P.info? e = some i ∧ i.zero = some z ∧ i.size = sz ∧ i.bytes = by_ ∧ z.cells.size = sz ∧ 0 < sz
def apB (P : Program) (t e sz by_ : Nat) : Bool := match P.underlying t with
 | some (.slice e') => e' == e && (match P.info? e with
  | some i => (match i.zero with
   | some z => i.size == sz && i.bytes == by_ && z.cells.size == sz && Nat.blt 0 sz
   | none => false)
  | none => false)
 | _ => false
theorem AP.of {P : Program} {t e sz by_ : Nat} (h : apB P t e sz by_ = true) : AP P t e sz by_ := by
 unfold apB at h
 split at h
 ·rename_i e' hu
  rw [Bool.and_eq_true] at h
  obtain ⟨h1, h2⟩ := h
  have h1 : e' = e := by simpa using h1
  subst h1
  split at h2
  ·rename_i i hi
   split at h2
   ·rename_i z hz
    simp only [Bool.and_eq_true, beq_iff_eq, Nat.blt_eq] at h2
    exact ⟨hu, i, z, hi, hz, h2.1.1.1, h2.1.1.2, h2.1.2, h2.2⟩
   ·cases h2
  ·cases h2
 ·cases h
theorem jk {P : Program} (w : World) (t ty : TypeId) {e sz by_ : Nat} (hp : P.underlying t = some (.slice e) ∧ ∃ i z, P.info? e = some i ∧ i.zero = some z ∧ i.size = sz ∧ i.bytes = by_ ∧ z.cells.size = sz ∧ 0 < sz)
   (v : Value) (n : Nat) (xs : List Value) (hown : w.ownsRow 0 e sz v n xs)
   (a : Addr) (m c : Nat) (news : List Value) (hl : news.length = m * sz) (hnews : ∀ j u, news[j]? = some u → w.cell? (a.add j) = some u) (h1 : ∀ u ∈ news, u.oneCell' = true)
   (hbytes : (n + m) * by_ ≤ 140737488355328) (h63 : n + m ≤ 9223372036854775807) :
   ∃ v' w', (Builtin.append_ #[t, t] ty #[v, .slice (some a) m c]).run P w = .ok v' w' ∧ w'.ownsRow 0 e sz v' (n + m) (xs ++ news) ∧ w.grownBy w' v.ownBlock ∧ ∀ b, v'.ownBlock = some b → v.ownBlock = some b ∨ w.heap.size ≤ b := by
 obtain ⟨ht, i, z, hi, hz, hsize, hby, hzs, hsz⟩ := hp
 have h63' : n + m ≤ maxLen := by simp only [maxLen]; omega
 obtain ⟨v', w', hr, ho, hg, _⟩ := run_append_own (P := P) w 0 t ty e i z sz by_ ht hi hz hsize hby hzs hsz v n xs hown a m c news hl hnews h1 h63' hbytes (Nat.zero_le _)
 refine ⟨v', w', hr, ho, hg, ?_⟩
 rcases hown.2 with ⟨rfl, rfl⟩ | ⟨g, cap, cur, rfl, hbg, hgg, hnc, hcm, hcs, htake⟩
 ·obtain rfl : xs = [] := List.eq_nil_of_length_eq_zero (by simpa using hown.1)
  obtain ⟨v2, w2, hr2, ho2, _⟩ := run_append_own (P := P) w w.heap.size t ty e i z sz by_ ht hi hz hsize hby hzs hsz _ 0 [] (World.ownsRow_nil w _ e sz) a m c news hl hnews h1 h63' hbytes (Nat.le_refl _)
  rw [hr] at hr2
  obtain ⟨rfl, rfl⟩ : v' = v2 ∧ w' = w2 := by injection hr2 with h1 h2; exact ⟨h1, h2⟩
  intro b hb
  exact .inr (ho2.lt b hb).1
 ·by_cases hroom : n + m ≤ cap
  ·have hr2 := run_append_room (P := P) w t ty e i ht hi g n cap cur hgg a m c news (by rw [hsize]; exact hl) hnews h1 hroom (by rw [hsize, hl, hcs, ← Nat.add_mul]; exact Nat.mul_le_mul_right _ hroom)
   rw [hr] at hr2
   injection hr2 with h2 h3
   intro b hb
   rw [h2] at hb
   exact .inl hb
  ·obtain ⟨v2, w2, hr2, ho2, _⟩ := run_append_arg_grows (P := P) w t ty e i z sz by_ ht hi hz hsize hby hzs hsz ⟨g, 0, none⟩ n cap xs hown.1 (hown.cells (g := g) rfl) a m c news hl hnews (by omega) h63' hbytes
   rw [hr] at hr2
   obtain ⟨rfl, rfl⟩ : v' = v2 ∧ w' = w2 := by injection hr2 with h1 h2; exact ⟨h1, h2⟩
   intro b hb
   exact .inr (ho2.lt b hb).1
section
variable {P : Program} {ops : Array Oper} {Q : Exit → Act → World → Prop} {dr : Bool} {fu k : Nat} {rest : List (Nat × Oper)} {a : Act} {w w0 : World} {M Z0 : bn} {L : List Res} {φ : Fact}
 {d : Option Tmp} {ty : TypeId} {pos : String} {aft : Array Edge} {gd : Option (Nat × Bool)} {x y : Operand} {t t' : TypeId}
theorem zm (zs : List Value) : ∀ n i, i < n * zs.length → (List.replicate n zs).flatten[i]? = zs[i % zs.length]?
 | 0, i, h => by simp at h
 | n + 1, i, h => by
  rw [List.replicate_succ, List.flatten_cons]
  rcases Nat.lt_or_ge i zs.length with hi | hi
  ·rw [List.getElem?_append_left hi, Nat.mod_eq_of_lt hi]
  ·rw [List.getElem?_append_right hi, zm zs n (i - zs.length) (by rw [Nat.add_mul, Nat.one_mul] at h; omega), Nat.mod_eq_sub_mod hi]
theorem ET (zs : List Value) (n : Nat) : (madeCells zs.toArray (n * zs.length)).toList = (List.replicate n zs).flatten := by
 apply List.ext_getElem?
 intro i
 have hl : (List.replicate n zs).flatten.length = n * zs.length := by simp
 by_cases hi : i < n * zs.length
 ·have hz : 0 < zs.length := by
    rcases Nat.eq_zero_or_pos zs.length with h | h
    ·rw [h] at hi; simp at hi
    ·exact h
  have hm : i % zs.length < zs.length := Nat.mod_lt _ hz
  rw [zm zs n i hi]
  simp [madeCells, hi, hm]
 ·rw [List.getElem?_eq_none (by simp [madeCells]; omega), List.getElem?_eq_none (by rw [hl]; omega)]
end
end Go.Dk
namespace Go.Dk
open Go
mutual
def T.size : T → Nat
 | .mk _ _ kids => 1 + T.aA kids
def T.aA : List T → Nat
 | [] => 0
 | t :: ts => T.size t + T.aA ts
end
theorem T.size_eq (t : T) : t.size = 1 + T.aA t.kids := by cases t; rfl
theorem T.bw : ∀ ts : List T, ts.length ≤ T.aA ts
 | [] => by simp [T.aA]
 | t :: ts => by have := T.bw ts; have := T.size_eq t; simp only [T.aA, List.length_cons]; omega
theorem T.aT {t : T} : ∀ {ts : List T}, t ∈ ts → T.size t ≤ T.aA ts
 | u :: us, h => by
  simp only [T.aA]
  rcases List.mem_cons.1 h with rfl | h
  ·omega
  ·have := T.aT h; omega
theorem HT.HI (t : HT) : t.er = .mk t.k t.n (t.kids.map HT.er) := by cases t; simp [HT.er, HT.k, HT.n, HT.kids, HT.DH]
mutual
def T.beq : T → T → Bool
 | .mk k n ts, .mk l m us => decide (k = l) && (decide (n = m) && T.ox ts us)
def T.ox : List T → List T → Bool
 | [], [] => true
 | t :: ts, u :: us => T.beq t u && T.ox ts us
 | _, _ => false
end
mutual
theorem T.beq_iff : ∀ t u : T, T.beq t u = true ↔ t = u
 | .mk k n ts, .mk l m us => by simp [T.beq, T.q6 ts us]
theorem T.q6 : ∀ ts us : List T, T.ox ts us = true ↔ ts = us
 | [], [] => by simp [T.ox]
 | [], u :: us => by simp [T.ox]
 | t :: ts, [] => by simp [T.ox]
 | t :: ts, u :: us => by simp [T.ox, T.beq_iff t u, T.q6 ts us]
end
theorem T.beq_eq (t u : T) : T.beq t u = (decide (t.k = u.k) && (decide (t.n = u.n) && T.ox t.kids u.kids)) := by cases t; cases u; rfl
theorem T.beq_refl (t : T) : T.beq t t = true := (T.beq_iff t t).2 rfl
theorem T.tp (t : List T) : T.ox t t = true := (T.q6 t t).2 rfl
end Go.Dk
end
section
namespace Go.Proofs.Ytajlknlnmmbfcaa
open Go Go.Dk
instance : FO Try.prog 29 0 0 := ⟨by kernel_rfl⟩
instance : FO Try.prog 29 1 1 := ⟨by kernel_rfl⟩
instance : FO Try.prog 29 2 2 := ⟨by kernel_rfl⟩
instance : SZ Try.prog 29 3 := ⟨by kernel_rfl⟩
instance : ST3 Try.prog 29 := ⟨by kernel_rfl⟩
instance : ZR Try.prog 29 [.int .i64 0, .int .i64 0, .slice none 0 0] := ⟨by kernel_rfl⟩
instance : FO Try.prog 60 0 0 := ⟨by kernel_rfl⟩
instance : FO Try.prog 60 1 1 := ⟨by kernel_rfl⟩
instance : SL Try.prog 24 3 := ⟨by kernel_rfl⟩
instance : SC Try.prog 24 := ⟨by kernel_rfl⟩
instance : SZ Try.prog 24 1 := ⟨by kernel_rfl⟩
instance : ZR Try.prog 24 [.slice none 0 0] := ⟨by kernel_rfl⟩
instance : SL Try.prog 22 1 := ⟨by kernel_rfl⟩
instance : SC Try.prog 22 := ⟨by kernel_rfl⟩
instance : SZ Try.prog 22 1 := ⟨by kernel_rfl⟩
instance : ZR Try.prog 22 [.slice none 0 0] := ⟨by kernel_rfl⟩
instance : SL Try.prog 43 1 := ⟨by kernel_rfl⟩
instance : SC Try.prog 43 := ⟨by kernel_rfl⟩
instance : SZ Try.prog 43 1 := ⟨by kernel_rfl⟩
instance : ZR Try.prog 43 [.slice none 0 0] := ⟨by kernel_rfl⟩
instance : SL Try.prog 88 1 := ⟨by kernel_rfl⟩
instance : SC Try.prog 88 := ⟨by kernel_rfl⟩
instance : SZ Try.prog 88 1 := ⟨by kernel_rfl⟩
instance : ZR Try.prog 88 [.slice none 0 0] := ⟨by kernel_rfl⟩
instance : SC Try.prog 3 := ⟨by kernel_rfl⟩
instance : SZ Try.prog 3 1 := ⟨by kernel_rfl⟩
instance : F6 Try.prog 3 := ⟨by kernel_rfl⟩
instance : ZR Try.prog 3 [.int .i64 0] := ⟨by kernel_rfl⟩
instance : SC Try.prog 4 := ⟨by kernel_rfl⟩
instance : SZ Try.prog 4 1 := ⟨by kernel_rfl⟩
instance : F7 Try.prog 4 := ⟨by kernel_rfl⟩
instance : ZR Try.prog 4 [.bool false] := ⟨by kernel_rfl⟩
instance : SC Try.prog 9 := ⟨by kernel_rfl⟩
instance : SZ Try.prog 9 1 := ⟨by kernel_rfl⟩
instance : oZ Try.prog 9 := ⟨by kernel_rfl⟩
instance : ZR Try.prog 9 [.string ⟨#[]⟩] := ⟨by kernel_rfl⟩
instance : SC Try.prog 5 := ⟨by kernel_rfl⟩
instance : SZ Try.prog 5 1 := ⟨by kernel_rfl⟩
instance : HZ Try.prog 5 := ⟨by kernel_rfl⟩
instance : EB Try.prog 22 5 1 := ⟨by kernel_rfl, by kernel_rfl, by kernel_rfl⟩
instance : EB Try.prog 43 3 1 := ⟨by kernel_rfl, by kernel_rfl, by kernel_rfl⟩
instance : EB Try.prog 88 9 1 := ⟨by kernel_rfl, by kernel_rfl, by kernel_rfl⟩
instance : EB Try.prog 24 29 3 := ⟨by kernel_rfl, by kernel_rfl, by kernel_rfl⟩
instance : CV Try.prog 22 9 := ⟨⟨5, by kernel_rfl, by kernel_rfl, by kernel_rfl⟩⟩
instance : BT Try.prog 29 := ⟨by kernel_rfl, by kernel_rfl⟩
instance : DrM Try.prog := ⟨by kernel_rfl⟩
instance : AP Try.prog 24 29 3 40 := AP.of (by kernel_rfl)
instance : AP Try.prog 43 3 1 8 := AP.of (by kernel_rfl)
instance : AP Try.prog 88 9 1 16 := AP.of (by kernel_rfl)
instance : AP Try.prog 22 5 1 1 := AP.of (by kernel_rfl)
instance : CB Try.prog 3 := ⟨by kernel_rfl⟩
instance : CB Try.prog 4 := ⟨by kernel_rfl⟩
instance : CB Try.prog 5 := ⟨by kernel_rfl⟩
instance : CB Try.prog 6 := ⟨by kernel_rfl⟩
instance : CB Try.prog 7 := ⟨by kernel_rfl⟩
instance : CB Try.prog 8 := ⟨by kernel_rfl⟩
instance : CB Try.prog 9 := ⟨by kernel_rfl⟩
instance : CB Try.prog 10 := ⟨by kernel_rfl⟩
instance : CB Try.prog 11 := ⟨by kernel_rfl⟩
instance : CB Try.prog 12 := ⟨by kernel_rfl⟩
instance : CB Try.prog 13 := ⟨by kernel_rfl⟩
instance : CB Try.prog 14 := ⟨by kernel_rfl⟩
instance : CB Try.prog 15 := ⟨by kernel_rfl⟩
instance : CB Try.prog 16 := ⟨by kernel_rfl⟩
instance : CB Try.prog 17 := ⟨by kernel_rfl⟩
instance : CB Try.prog 18 := ⟨by kernel_rfl⟩
instance : CB Try.prog 19 := ⟨by kernel_rfl⟩
instance : CB Try.prog 20 := ⟨by kernel_rfl⟩
instance : CB Try.prog 21 := ⟨by kernel_rfl⟩
instance : CB Try.prog 22 := ⟨by kernel_rfl⟩
instance : CB Try.prog 23 := ⟨by kernel_rfl⟩
instance : CB Try.prog 24 := ⟨by kernel_rfl⟩
instance : CB Try.prog 25 := ⟨by kernel_rfl⟩
instance : CB Try.prog 26 := ⟨by kernel_rfl⟩
instance : CB Try.prog 27 := ⟨by kernel_rfl⟩
instance : CB Try.prog 28 := ⟨by kernel_rfl⟩
instance : CB Try.prog 29 := ⟨by kernel_rfl⟩
instance : CB Try.prog 30 := ⟨by kernel_rfl⟩
instance : CB Try.prog 31 := ⟨by kernel_rfl⟩
instance : CB Try.prog 32 := ⟨by kernel_rfl⟩
instance : CB Try.prog 33 := ⟨by kernel_rfl⟩
instance : CB Try.prog 34 := ⟨by kernel_rfl⟩
instance : CB Try.prog 35 := ⟨by kernel_rfl⟩
instance : CB Try.prog 36 := ⟨by kernel_rfl⟩
instance : CB Try.prog 37 := ⟨by kernel_rfl⟩
instance : CB Try.prog 38 := ⟨by kernel_rfl⟩
instance : CB Try.prog 39 := ⟨by kernel_rfl⟩
instance : CB Try.prog 40 := ⟨by kernel_rfl⟩
instance : CB Try.prog 41 := ⟨by kernel_rfl⟩
instance : CB Try.prog 42 := ⟨by kernel_rfl⟩
instance : CB Try.prog 43 := ⟨by kernel_rfl⟩
instance : CB Try.prog 44 := ⟨by kernel_rfl⟩
instance : CB Try.prog 45 := ⟨by kernel_rfl⟩
instance : CB Try.prog 46 := ⟨by kernel_rfl⟩
instance : CB Try.prog 47 := ⟨by kernel_rfl⟩
instance : CB Try.prog 48 := ⟨by kernel_rfl⟩
instance : CB Try.prog 49 := ⟨by kernel_rfl⟩
instance : CB Try.prog 50 := ⟨by kernel_rfl⟩
instance : CB Try.prog 51 := ⟨by kernel_rfl⟩
instance : CB Try.prog 52 := ⟨by kernel_rfl⟩
instance : CB Try.prog 53 := ⟨by kernel_rfl⟩
instance : CB Try.prog 54 := ⟨by kernel_rfl⟩
instance : CB Try.prog 55 := ⟨by kernel_rfl⟩
instance : CB Try.prog 56 := ⟨by kernel_rfl⟩
instance : CB Try.prog 57 := ⟨by kernel_rfl⟩
instance : CB Try.prog 58 := ⟨by kernel_rfl⟩
instance : CB Try.prog 59 := ⟨by kernel_rfl⟩
instance : CB Try.prog 60 := ⟨by kernel_rfl⟩
instance : CB Try.prog 61 := ⟨by kernel_rfl⟩
instance : CB Try.prog 62 := ⟨by kernel_rfl⟩
instance : CB Try.prog 63 := ⟨by kernel_rfl⟩
instance : CB Try.prog 64 := ⟨by kernel_rfl⟩
instance : CB Try.prog 65 := ⟨by kernel_rfl⟩
instance : CB Try.prog 66 := ⟨by kernel_rfl⟩
instance : CB Try.prog 67 := ⟨by kernel_rfl⟩
instance : CB Try.prog 68 := ⟨by kernel_rfl⟩
instance : CB Try.prog 69 := ⟨by kernel_rfl⟩
instance : CB Try.prog 70 := ⟨by kernel_rfl⟩
instance : CB Try.prog 71 := ⟨by kernel_rfl⟩
instance : CB Try.prog 72 := ⟨by kernel_rfl⟩
instance : CB Try.prog 73 := ⟨by kernel_rfl⟩
instance : CB Try.prog 74 := ⟨by kernel_rfl⟩
instance : CB Try.prog 75 := ⟨by kernel_rfl⟩
instance : CB Try.prog 76 := ⟨by kernel_rfl⟩
instance : CB Try.prog 77 := ⟨by kernel_rfl⟩
instance : CB Try.prog 78 := ⟨by kernel_rfl⟩
instance : CB Try.prog 79 := ⟨by kernel_rfl⟩
instance : CB Try.prog 80 := ⟨by kernel_rfl⟩
instance : CB Try.prog 81 := ⟨by kernel_rfl⟩
instance : CB Try.prog 82 := ⟨by kernel_rfl⟩
instance : CB Try.prog 83 := ⟨by kernel_rfl⟩
instance : CB Try.prog 84 := ⟨by kernel_rfl⟩
instance : CB Try.prog 85 := ⟨by kernel_rfl⟩
instance : CB Try.prog 86 := ⟨by kernel_rfl⟩
instance : CB Try.prog 87 := ⟨by kernel_rfl⟩
instance : CB Try.prog 88 := ⟨by kernel_rfl⟩
instance : CB Try.prog 89 := ⟨by kernel_rfl⟩
instance : CB Try.prog 90 := ⟨by kernel_rfl⟩
instance : CB Try.prog 91 := ⟨by kernel_rfl⟩
instance : CB Try.prog 92 := ⟨by kernel_rfl⟩
instance : CB Try.prog 93 := ⟨by kernel_rfl⟩
instance : CB Try.prog 94 := ⟨by kernel_rfl⟩
instance : CB Try.prog 95 := ⟨by kernel_rfl⟩
instance : CB Try.prog 96 := ⟨by kernel_rfl⟩
instance : CB Try.prog 97 := ⟨by kernel_rfl⟩
instance : CB Try.prog 98 := ⟨by kernel_rfl⟩
instance : CB Try.prog 99 := ⟨by kernel_rfl⟩
instance : CB Try.prog 100 := ⟨by kernel_rfl⟩
instance : CB Try.prog 101 := ⟨by kernel_rfl⟩
instance : CB Try.prog 102 := ⟨by kernel_rfl⟩
instance : CB Try.prog 103 := ⟨by kernel_rfl⟩
instance : CB Try.prog 104 := ⟨by kernel_rfl⟩
instance : CB Try.prog 105 := ⟨by kernel_rfl⟩
instance : CB Try.prog 106 := ⟨by kernel_rfl⟩
instance : CB Try.prog 107 := ⟨by kernel_rfl⟩
instance : CB Try.prog 108 := ⟨by kernel_rfl⟩
instance : CB Try.prog 109 := ⟨by kernel_rfl⟩
instance : CB Try.prog 110 := ⟨by kernel_rfl⟩
instance : CB Try.prog 111 := ⟨by kernel_rfl⟩
instance : CB Try.prog 112 := ⟨by kernel_rfl⟩
instance : CB Try.prog 113 := ⟨by kernel_rfl⟩
instance : CB Try.prog 114 := ⟨by kernel_rfl⟩
instance : CB Try.prog 115 := ⟨by kernel_rfl⟩
instance : CB Try.prog 116 := ⟨by kernel_rfl⟩
instance : CB Try.prog 117 := ⟨by kernel_rfl⟩
instance : CB Try.prog 118 := ⟨by kernel_rfl⟩
instance : CB Try.prog 119 := ⟨by kernel_rfl⟩
instance : CB Try.prog 120 := ⟨by kernel_rfl⟩
instance : CB Try.prog 121 := ⟨by kernel_rfl⟩
instance : CB Try.prog 122 := ⟨by kernel_rfl⟩
instance : CB Try.prog 123 := ⟨by kernel_rfl⟩
instance : CB Try.prog 124 := ⟨by kernel_rfl⟩
instance : CB Try.prog 125 := ⟨by kernel_rfl⟩
instance : CB Try.prog 126 := ⟨by kernel_rfl⟩
instance : CB Try.prog 127 := ⟨by kernel_rfl⟩
instance : CB Try.prog 128 := ⟨by kernel_rfl⟩
instance : CB Try.prog 129 := ⟨by kernel_rfl⟩
instance : CB Try.prog 130 := ⟨by kernel_rfl⟩
instance : CB Try.prog 131 := ⟨by kernel_rfl⟩
instance : CB Try.prog 132 := ⟨by kernel_rfl⟩
instance : CB Try.prog 133 := ⟨by kernel_rfl⟩
instance : CB Try.prog 134 := ⟨by kernel_rfl⟩
instance : CB Try.prog 135 := ⟨by kernel_rfl⟩
instance : CB Try.prog 136 := ⟨by kernel_rfl⟩
instance : CB Try.prog 137 := ⟨by kernel_rfl⟩
instance : CB Try.prog 138 := ⟨by kernel_rfl⟩
instance : CB Try.prog 139 := ⟨by kernel_rfl⟩
instance : CB Try.prog 140 := ⟨by kernel_rfl⟩
instance : CB Try.prog 141 := ⟨by kernel_rfl⟩
instance : CB Try.prog 142 := ⟨by kernel_rfl⟩
instance : CB Try.prog 143 := ⟨by kernel_rfl⟩
instance : CB Try.prog 144 := ⟨by kernel_rfl⟩
instance : CB Try.prog 145 := ⟨by kernel_rfl⟩
instance : CB Try.prog 146 := ⟨by kernel_rfl⟩
instance : CB Try.prog 147 := ⟨by kernel_rfl⟩
instance : CB Try.prog 148 := ⟨by kernel_rfl⟩
instance : CB Try.prog 149 := ⟨by kernel_rfl⟩
instance : CB Try.prog 150 := ⟨by kernel_rfl⟩
instance : CB Try.prog 151 := ⟨by kernel_rfl⟩
instance : CB Try.prog 152 := ⟨by kernel_rfl⟩
instance : CB Try.prog 153 := ⟨by kernel_rfl⟩
end Go.Proofs.Ytajlknlnmmbfcaa
end
section
namespace Go.Ab
open Go Go.Dk
inductive SK | t | i | ii | s | b
def SK.beq : SK → SK → Bool
 | .t, .t | .i, .i | .ii, .ii | .s, .s | .b, .b => true
 | _, _ => false
inductive SD
 | ts (l : List T) | is (l : List Int) | iss (l : List (List Int)) | ss (l : List ByteArray) | bs (l : List UInt8)
inductive SE
 | t (t : T) | i (n : Int) | ii (l : List Int) | s (x : ByteArray) | b (c : UInt8)
def SK.size : SK → Nat | .t => 3 | _ => 1
def SK.nil : SK → SD | .t => .ts [] | .i => .is [] | .ii => .iss [] | .s => .ss [] | .b => .bs []
def SD.kind : SD → SK | .ts _ => .t | .is _ => .i | .iss _ => .ii | .ss _ => .s | .bs _ => .b
def SD.len : SD → Nat | .ts l => l.length | .is l => l.length | .iss l => l.length | .ss l => l.length | .bs l => l.length
inductive SV
 | int (k : IntKind) (n : Int)
 | bool (b : Bool)
 | str (x : ByteArray)
 | emp (k : Option (TypeId × SK))
 | fr (d : SD)
 | own (j v : Nat)
 | ptr (j off : Nat)
 | ep (e : SE) (off : Nat)
 | op (j v i off : Nat)
 | fn (f : FuncId) (caps : List Nat)
 | nilp
 | any
inductive V1 | one (s : SV) | agg (l : List SV)
inductive AV | v (x : V1) | tup (l : List V1)
inductive aq | cells (l : List SV) | arr (e : TypeId) (d : SD) (ver : Nat) (fz : Bool) | dead
structure AS where
 tmps : List AV
 heap : List aq
abbrev OR := Option (List V1 × List aq)
def aa : AV := .v (.one .any)
def V1.cells : V1 → List SV | .one s => [s] | .agg l => l
def AV.cs : AV → Option (List SV)
 | .v (.one .any) => none
 | .v (.one s) => some [s]
 | .v (.agg l) => some l
 | .tup _ => none
def csL : List AV → Option (List (List SV))
 | [] => some []
 | v :: l => v.cs.bind fun c => (csL l).map (c :: ·)
def SE.cells : SE → List SV
 | .t x => [.int .i64 x.k, .int .i64 x.n, .fr (.ts x.kids)]
 | .i n => [.int .i64 n]
 | .ii l => [.fr (.is l)]
 | .s x => [.str x]
 | .b c => [.int .u8 (c.toNat : Int)]
def SD.get (d : SD) (i : Nat) (k : SE → OR) : OR :=
 match d with
 | .ts l => l[i]?.bind fun x => k (.t x)
 | .is l => l[i]?.bind fun x => k (.i x)
 | .iss l => l[i]?.bind fun x => k (.ii x)
 | .ss l => l[i]?.bind fun x => k (.s x)
 | .bs l => l[i]?.bind fun x => k (.b x)
def SD.app (d e : SD) (k : SD → OR) : OR :=
 match d, e with
 | .ts l, .ts m => k (.ts (l ++ m))
 | .is l, .is m => k (.is (l ++ m))
 | .iss l, .iss m => k (.iss (l ++ m))
 | .ss l, .ss m => k (.ss (l ++ m))
 | .bs l, .bs m => k (.bs (l ++ m))
 | _, _ => none
def SD.set (d : SD) (i : Nat) (e : SE) (k : SD → OR) : OR :=
 match d, e with
 | .ts l, .t x => k (.ts (l.set i x))
 | .is l, .i x => k (.is (l.set i x))
 | .iss l, .ii x => k (.iss (l.set i x))
 | .ss l, .s x => k (.ss (l.set i x))
 | .bs l, .b x => k (.bs (l.set i x))
 | _, _ => none
def SD.sub (d : SD) (lo hi : Nat) : SD :=
 match d with
 | .ts l => .ts ((l.take hi).drop lo)
 | .is l => .is ((l.take hi).drop lo)
 | .iss l => .iss ((l.take hi).drop lo)
 | .ss l => .ss ((l.take hi).drop lo)
 | .bs l => .bs ((l.take hi).drop lo)
def zJ (P : Program) (e : TypeId) : Option SK :=
 match P.underlying e with
 | some (.struct _) => (match kZ P e with | some 3 => some .t | _ => none)
 | some (.int .i64) => some .i
 | some (.int .u8) => some .b
 | some .string => some .s
 | some (.slice e') => (match P.underlying e' with | some (.int .i64) => some .ii | _ => none)
 | _ => none
def BY (P : Program) (e : TypeId) (k : SK) : Bool := match P.info? e with
 | some i => (match i.zero with
  | some z => Nat.beq i.size k.size && (Nat.beq z.cells.size k.size && Nat.ble i.bytes 64)
  | none => false)
 | none => false
def zc (P : Program) (e : TypeId) : Option SK := (zJ P e).bind fun k => cond (BY P e k) (some k) none
def cn (P : Program) (t : TypeId) : Option (TypeId × SK) := match P.underlying t with | some (.slice e) => (zc P e).map fun k => (e, k) | _ => none
def leaves (P : Program) : Nat → TypeId → List (Option (TypeId × SK))
 | 0, _ => [none]
 | n + 1, t => match P.underlying t with
  | some (.struct fs) => fs.toList.flatMap fun f => leaves P n f.type
  | some (.slice _) => [cn P t]
  | _ => [none]
def Eb (k : Option (TypeId × SK)) : Value → SV
 | .int k n => .int k n
 | .bool b => .bool b
 | .string s => .str s
 | .slice none 0 0 => .emp k
 | .pointer none => .nilp
 | _ => .any
def z5 : List (Option (TypeId × SK)) → List Value → List SV
 | k :: ks, v :: vs => Eb k v :: z5 ks vs
 | [], v :: vs => Eb none v :: z5 [] vs
 | _, [] => []
def AV.ofValue : Value → AV
 | .agg cs => cond (cs.toList.all r5) (.v (.agg (z5 [] cs.toList))) aa
 | .tuple _ => aa
 | x => .v (.one (Eb none x))
def ng (P : Program) (t : TypeId) : AV → AV
 | .v (.one (.emp none)) => .v (.one (.emp (cn P t)))
 | .v (.agg l) => .v (.agg (go (leaves P 4 t) l))
 | x => x
where go : List (Option (TypeId × SK)) → List SV → List SV
 | k :: ks, .emp none :: l => .emp k :: go ks l
 | _ :: ks, x :: l => x :: go ks l
 | [], l => l
 | _, [] => []
def Ad (P : Program) (t : TypeId) : Option (List SV) := (me P t).bind fun z => cond (z.all r5) (some (z5 (leaves P 4 t) z)) none
def AS.ev (s : AS) : Operand → AV
 | .tmp t => s.tmps.getD t aa
 | .const v => AV.ofValue v
 | .func f => .v (.one (.fn f []))
 | .global _ => aa
def AS.put (s : AS) (d : Option Tmp) (v : AV) : AS :=
 match d with
 | some d => { s with tmps := s.tmps.set d v }
 | none => s
def vr (h : List aq) (x : SV) (k : SD → OR) : OR :=
 match x with
 | .fr d => k d
 | .emp (some e) => k e.2.nil
 | .own j v => (match h[j]? with
  | some (.arr _ d ver _) => cond (Nat.beq v ver) (k d) none
  | _ => none)
 | _ => none
def mg (h : List aq) (x : SV) (k : SV → List aq → OR) : OR :=
 match x with
 | .own j v => (match h[j]? with
  | some (.arr e d ver _) => cond (Nat.beq v ver) (k (.fr d) (h.set j (.arr e d ver true))) none
  | _ => none)
 | .emp (some e) => k (.fr e.2.nil) h
 | x => k x h
def jE (h : List aq) : List SV → (List SV → List aq → OR) → OR
 | [], k => k [] h
 | x :: l, k => mg h x fun x' h' => jE h' l fun l' h'' => k (x' :: l') h''
def elemOf (e : SK) (l : List SV) (k : SE → OR) : OR :=
 match e, l with
 | .t, [.int .i64 a, .int .i64 b, .fr (.ts l)] => k (.t (.mk a b l))
 | .i, [.int .i64 a] => k (.i a)
 | .ii, [.fr (.is l)] => k (.ii l)
 | .s, [.str x] => k (.s x)
 | .b, [.int .u8 n] => cond (decide (0 ≤ n) && decide (n ≤ 255)) (k (.b (UInt8.ofNat n.toNat))) none
 | _, _ => none
def SD.snoc (d : SD) (e : SE) : Option SD :=
 match d, e with
 | .ts l, .t x => some (.ts (l ++ [x]))
 | .is l, .i x => some (.is (l ++ [x]))
 | .iss l, .ii x => some (.iss (l ++ [x]))
 | .ss l, .s x => some (.ss (l ++ [x]))
 | .bs l, .b x => some (.bs (l ++ [x]))
 | _, _ => none
def jK (e : SK) (h : List aq) : List (List SV) → SD → (SD → List aq → OR) → OR
 | [], d, k => k d h
 | c :: cs, d, k => jE h c fun c' h' => elemOf e c' fun x => (d.snoc x).bind fun d' => jK e h' cs d' k
def vj (P : Program) (t : TypeId) (l : List SV) (k : AV → OR) : OR :=
 match rW P t with
 | true => (match l with | c :: _ => k (.v (.one c)) | [] => none)
 | false => (match kZ P t with
  | some n => cond (Nat.ble n l.length) (k (.v (.agg (l.take n)))) none
  | none => none)
def mS (P : Program) (t : TypeId) (x : AV) (h : List aq) (k : AV → OR) : OR :=
 match x with
 | .v (.one (.ptr j off)) => (match h[j]? with
  | some (.cells l) => vj P t (l.drop off) k
  | _ => none)
 | .v (.one (.ep e off)) => vj P t (e.cells.drop off) k
 | .v (.one (.op j v i off)) => (match h[j]? with
  | some (.arr _ d ver _) => cond (Nat.beq v ver) (d.get i fun e => vj P t (e.cells.drop off) k) none
  | _ => none)
 | _ => none
def Fh (l : List SV) (off : Nat) : List SV → List SV
 | [] => l
 | c :: cs => Fh (l.set off c) (off + 1) cs
def nT (P : Program) (t : TypeId) (x y : AV) (h : List aq) (k : List aq → OR) : OR :=
 match (P.info? t).map (·.size) with
 | some m => y.cs.bind fun yc => (match x with
  | .v (.one (.ptr j off)) => (match h[j]? with
   | some (.cells l) => cond (Nat.beq m yc.length && Nat.ble (off + m) l.length) (k (h.set j (.cells (Fh l off yc)))) none
   | _ => none)
  | .v (.one (.op j v i 0)) => jE h yc fun c h => (match h[j]? with
   | some (.arr e d ver false) => cond (Nat.beq v ver && Nat.beq m d.kind.size) (elemOf d.kind c fun x => d.set i x fun d' => k (h.set j (.arr e d' ver false))) none
   | _ => none)
  | _ => none)
 | none => none
def Cc (a b : IntKind) : Bool := decide (a = b)
def Bc (op : BinOp) (ka : IntKind) (a b : Int) (k : SV → OR) : OR :=
 match op with
 | .add => k (.int ka (ka.wrap (a + b)))
 | .sub => k (.int ka (ka.wrap (a - b)))
 | .mul => k (.int ka (ka.wrap (a * b)))
 | .quo => cond (decide (b = 0)) none (k (.int ka (ka.wrap (a.tdiv b))))
 | .rem => cond (decide (b = 0)) none (k (.int ka (a.tmod b)))
 | .xor => k (.int ka (ka.wrap (BitVec.ofInt ka.bits a ^^^ BitVec.ofInt ka.bits b).toNat))
 | .eql => k (.bool (decide (a = b)))
 | .neq => k (.bool (!decide (a = b)))
 | .lss => k (.bool (decide (a < b)))
 | .leq => k (.bool (decide (a ≤ b)))
 | .gtr => k (.bool (decide (b < a)))
 | .geq => k (.bool (decide (b ≤ a)))
 | _ => none
def Bq (op : BinOp) (a b : ByteArray) (k : SV → OR) : OR :=
 match op with
 | .add => cond (decide (a.size + b.size ≤ 9223372036854775807)) (k (.str (a ++ b))) none
 | .eql => k (.bool (a.toList == b.toList))
 | .neq => k (.bool (!(a.toList == b.toList)))
 | .gtr => k (.bool (!(Op.bytesLess a.toList b.toList || a.toList == b.toList)))
 | _ => none
def BZ (P : Program) (op : BinOp) (t : TypeId) (x y : AV) (k : SV → OR) : OR :=
 match x, y with
 | .v (.one (.int ka a)), .v (.one (.int kb b)) => cond (Cc ka kb) (Bc op ka a b k) none
 | .v (.one (.str a)), .v (.one (.str b)) => Bq op a b k
 | .v (.one (.bool a)), .v (.one (.bool b)) => (match P.underlying t with
  | some .bool => (match op with
   | .eql => k (.bool (decide (a = b)))
   | .neq => k (.bool (!decide (a = b)))
   | _ => none)
  | _ => none)
 | _, _ => none
def Gh (op : UnOp) (x : AV) (k : SV → OR) : OR :=
 match op, x with
 | .not, .v (.one (.bool b)) => k (.bool (!b))
 | .neg, .v (.one (.int ka n)) => k (.int ka (ka.wrap (0 - n)))
 | _, _ => none
def sd (P : Program) (t t' : TypeId) (x : AV) (h : List aq) (k : SV → OR) : OR :=
 match x with
 | .v (.one (.int _ n)) => (match P.underlying t, P.underlying t' with
  | some (.int _), some (.int ka) => k (.int ka (ka.wrap n))
  | _, _ => none)
 | .v (.one x) => (match cn P t, P.underlying t' with
  | some (_, .b), some .string => vr h x fun d => (match d with | .bs l => k (.str ⟨l.toArray⟩) | _ => none)
  | _, _ => none)
 | _ => none
def fc (x : AV) (k : Int → OR) : OR := match x with | .v (.one (.int .i64 n)) => k n | _ => none
def inB (lo hi n : Int) : Bool := decide (0 ≤ lo) && (decide (lo ≤ hi) && decide (hi ≤ n))
def eY (P : Program) (t : TypeId) (x : AV) (lo hi mx : Option AV) (h : List aq) (k : SV → List aq → OR) : OR :=
 match mx with
 | some mx => cond (cn P t).isSome (fc mx fun m => (match hi, lo with
  | some hi, none => fc hi fun n => cond (decide (m = 0) && decide (n = 0)) (match x with
   | .v (.one (.fr d)) => cond (kindEq (cn P t) d.kind) (k (.emp (cn P t)) h) none
   | .v (.one (.own j v)) => (match h[j]? with
    | some (.arr _ d ver _) => cond (Nat.beq v ver && kindEq (cn P t) d.kind) (k (.emp (cn P t)) h) none
    | _ => none)
   | .v (.one (.emp e)) => (k (.emp (cn P t)) h)
   | _ => none) none
  | some hi, some lo => fc hi fun n => fc lo fun l => cond (decide (m = 0) && (decide (n = 0) && decide (l = 0))) (match x with
   | .v (.one (.fr d)) => cond (kindEq (cn P t) d.kind) (k (.emp (cn P t)) h) none
   | .v (.one (.own j v)) => (match h[j]? with
    | some (.arr _ d ver _) => cond (Nat.beq v ver && kindEq (cn P t) d.kind) (k (.emp (cn P t)) h) none
    | _ => none)
   | .v (.one (.emp e)) => (k (.emp (cn P t)) h)
   | _ => none) none
  | _, _ => none)) none
 | none => (match x with
  | .v (.one (.str a)) => (match P.underlying t with
   | some .string => bounds lo hi a.size fun l n => k (.str (a.extract l.toNat n.toNat)) h
   | _ => none)
  | .v (.one x) => (match cn P t with
   | some e => mg h x fun x' h' => (match x' with
    | .fr d => cond (SK.beq e.2 d.kind) (bounds lo hi d.len fun l n => k (.fr (d.sub l.toNat n.toNat)) h') none
    | _ => none)
   | none => none)
  | _ => none)
where
 kindEq : Option (TypeId × SK) → SK → Bool
  | some a, c => SK.beq a.2 c
  | none, _ => false
 bounds (lo hi : Option AV) (n : Nat) (k : Int → Int → OR) : OR :=
  match lo, hi with
  | none, none => k 0 n
  | some lo, none => fc lo fun l => cond (inB l n n) (k l n) none
  | none, some hi => fc hi fun m => cond (inB 0 m n) (k 0 m) none
  | some lo, some hi => fc lo fun l => fc hi fun m => cond (inB l m n) (k l m) none
def fK (P : Program) (t : TypeId) (x y : AV) (h : List aq) (k : SV → OR) : OR :=
 match cn P t with
 | none => none
 | some e => fc y fun i => cond (decide (0 ≤ i)) (match x with
  | .v (.one (.fr d)) => cond (SK.beq e.2 d.kind) (d.get i.toNat fun x => k (.ep x 0)) none
  | .v (.one (.own j v)) => (match h[j]? with
   | some (.arr _ d ver _) => cond (Nat.beq v ver && SK.beq e.2 d.kind) (cond (decide (i < d.len)) (k (.op j v i.toNat 0)) none) none
   | _ => none)
  | _ => none) none
def A3 (P : Program) (t : TypeId) (x : AV) (h : List aq) (k : SV → OR) : OR :=
 match x with
 | .v (.one (.str a)) => (match P.underlying t with | some .string => k (.int .i64 (a.size : Int)) | _ => none)
 | .v (.one (.emp _)) => (match cn P t with | some _ => k (.int .i64 0) | none => none)
 | .v (.one x) => (match cn P t with | some _ => vr h x fun d => k (.int .i64 (d.len : Int)) | none => none)
 | _ => none
def b8 (n : Nat) : Bool := decide (n ≤ 1099511627776)
def jS (P : Program) (t : TypeId) (x y : AV) (h : List aq) (sl : Nat) (k : SV → List aq → OR) : OR :=
 match cn P t with
 | none => none
 | some e => (match y with
  | .v (.one y) => vr h y fun d' => cond (SK.beq e.2 d'.kind) (match x with
   | .v (.one (.own j v)) => (match h[j]? with
    | some (.arr e' d ver false) => cond (Nat.beq v ver && Nat.beq e.1 e') (d.app d' fun d'' => cond (b8 d''.len) (k (.own j (ver + 1)) (h.set j (.arr e' d'' (ver + 1) false))) none) none
    | _ => none)
   | .v (.one (.emp _)) => cond (b8 d'.len) (k (.own sl 0) (h.set sl (.arr e.1 d' 0 false))) none
   | _ => none) none
  | _ => none)
def AD (P : Program) (e : TypeId) (k : SK) : Bool :=
 match me P e, k with
 | some [.int .i64 a, .int .i64 b, .slice none 0 0], .t => decide (a = 0) && decide (b = 0)
 | some [.int .i64 a], .i => decide (a = 0)
 | some [.string x], .s => decide (x = ByteArray.empty)
 | some [.int .u8 a], .b => decide (a = 0)
 | _, _ => false
def yN (n : Nat) : SK → Option SD
 | .t => some (.ts (List.replicate n (.mk 0 0 [])))
 | .i => some (.is (List.replicate n 0))
 | .ii => none
 | .s => some (.ss (List.replicate n ByteArray.empty))
 | .b => some (.bs (List.replicate n 0))
def pU (P : Program) (t : TypeId) (x y : AV) (h : List aq) (sl : Nat) (k : SV → List aq → OR) : OR :=
 fc x fun n => fc y fun m => cond (decide (n = m) && (decide (0 ≤ n) && decide (n ≤ 4194304))) (match cn P t with
  | some e => cond (AD P e.1 e.2) ((yN n.toNat e.2).bind fun d => k (.own sl 0) (h.set sl (.arr e.1 d 0 false))) none
  | none => none) none
def oO (h : List aq) (j : Nat) : Bool := match h[j]? with | some (.cells _) => true | _ => false
def wi (h : List aq) (j v : Nat) : Bool := match h[j]? with | some (.arr _ _ ver _) => Nat.beq v ver | _ => false
def nj (h : List aq) (d : Nat) (v : AV) (k : SV → OR) : OR :=
 match v with
 | .v (.one (.ptr j o)) => cond (oO h j) (k (.ptr j (o + d))) none
 | .v (.one (.ep e o)) => k (.ep e (o + d))
 | .v (.one (.op j v n o)) => cond (wi h j v) (k (.op j v n (o + d))) none
 | _ => none
def BQ (h : List aq) (v : AV) (k : SV → OR) : OR :=
 match v with
 | .v (.one (.ptr j o)) => cond (oO h j) (k (.ptr j o)) none
 | .v (.one (.ep e o)) => k (.ep e o)
 | .v (.one (.op j v n o)) => cond (wi h j v) (k (.op j v n o)) none
 | .v (.one (.fn f l)) => k (.fn f l)
 | _ => none
def mY (P : Program) (t : TypeId) (x y : AV) (k : SV → OR) : OR :=
 match x with
 | .v (.one (.str a)) => fc y fun n => cond (decide (0 ≤ n) && decide (n < a.size)) (match P.underlying t with
    | some .string => k (.int .u8 ((ba a n.toNat).toNat : Int))
    | _ => none) none
 | _ => none
def iw (x : AV) (i : Nat) (k : AV → OR) : OR := match x with | .tup l => l[i]?.bind fun x => k (.v x) | _ => none
def yD (mx : Bool) (x y : AV) (k : SV → OR) : OR :=
 match x, y with
 | .v (.one (.int a x)), .v (.one (.int b y)) => cond (Cc a b) (k (.int a (cond mx (max x y) (min x y)))) none
 | _, _ => none
def tO (h : List aq) : List AV → Option (List Nat)
 | [] => some []
 | .v (.one (.ptr j 0)) :: l => cond (oO h j) ((tO h l).map (j :: ·)) none
 | _ => none
end Go.Ab
namespace Go.Ab
open Go Go.Dk
def kV : SV → List Nat
 | .own j _ => [j]
 | .ptr j _ => [j]
 | .op j _ _ _ => [j]
 | .fn _ l => l
 | _ => []
def rC : Option aq → List Nat
 | some (.cells l) => l.flatMap kV
 | _ => []
def dc (j : Nat) : List Nat → Bool
 | [] => false
 | i :: l => Nat.beq j i || dc j l
def reach (h : List aq) : Nat → List Nat → List Nat → List Nat
 | 0, _, seen => seen
 | _, [], seen => seen
 | n + 1, j :: todo, seen => cond (dc j seen) (reach h n todo seen) (reach h n (rC h[j]? ++ todo) (seen ++ [j]))
def idx (j : Nat) : List Nat → Option Nat
 | [] => none
 | i :: l => cond (Nat.beq j i) (some 0) ((idx j l).map (· + 1))
def idxs (js : List Nat) : List Nat → Option (List Nat)
 | [] => some []
 | j :: l => (idx j js).bind fun i => (idxs js l).map (i :: ·)
def Fm (js : List Nat) : SV → SV
 | .own j v => (match idx j js with | some i => .own i v | none => .any)
 | .ptr j o => (match idx j js with | some i => .ptr i o | none => .any)
 | .op j v i o => (match idx j js with | some j => .op j v i o | none => .any)
 | .fn f l => (match idxs js l with | some l => .fn f l | none => .any)
 | x => x
def Fo (js : List Nat) : V1 → V1 | .one s => .one (Fm js s) | .agg l => .agg (l.map (Fm js))
def Hj (js : List Nat) : AV → AV | .v x => .v (Fo js x) | .tup l => .tup (l.map (Fo js))
def Ha (js : List Nat) : aq → aq | .cells l => .cells (l.map (Fm js)) | o => o
def tw (js : List Nat) (h : List aq) : List aq := js.map fun j => Ha js (h.getD j .dead)
def yL : V1 → List Nat | .one s => kV s | .agg l => l.flatMap kV
def l6 : AV → List Nat | .v x => yL x | .tup l => l.flatMap yL
def clean : SV → SV
 | .own _ _ => .any
 | .ptr _ _ => .any
 | .op _ _ _ _ => .any
 | .fn _ _ => .any
 | x => x
def jH (own : Bool) : List SV → List aq → Nat → (List SV → List aq → List aq → OR) → OR
 | [], h, _, k => k [] h []
 | .own j v :: l, h, b, k => (match h[j]? with
  | some (.arr e d ver fz) => cond (Nat.beq v ver) (cond own
     (cond fz none (jH own l (h.set j .dead) (b + 1) fun cs h os => k (.own b 0 :: cs) h (.arr e d 0 false :: os)))
     (jH own l (h.set j (.arr e d ver true)) b fun cs h os => k (.fr d :: cs) h os)) none
  | _ => none)
 | .emp (some e) :: l, h, b, k => cond own
    (jH own l h (b + 1) fun cs h os => k (.own b 0 :: cs) h (.arr e.1 e.2.nil 0 false :: os))
    (jH own l h b fun cs h os => k (.fr e.2.nil :: cs) h os)
 | .ptr j 0 :: l, h, b, k => (match h[j]? with
  | some (.cells c) => jE h c fun c h => jH own l (h.set j .dead) (b + 1) fun cs h os => k (.ptr b 0 :: cs) h (.cells (c.map clean) :: os)
  | _ => none)
 | .int a n :: l, h, b, k => jH own l h b fun cs h os => k (.int a n :: cs) h os
 | .bool x :: l, h, b, k => jH own l h b fun cs h os => k (.bool x :: cs) h os
 | .str x :: l, h, b, k => jH own l h b fun cs h os => k (.str x :: cs) h os
 | .fr x :: l, h, b, k => jH own l h b fun cs h os => k (.fr x :: cs) h os
 | _ :: l, h, b, k => jH own l h b fun cs h os => k (.any :: cs) h os
def GL (m : Nat) : Nat → List aq → (List aq → OR) → OR
 | 0, h, k => k []
 | n + 1, h, k => (match h[m - (n + 1)]? with
  | some (.cells c) => jE h c fun c h => GL m n h fun os => k (.cells (c.map clean) :: os)
  | _ => GL m n h fun os => k (.dead :: os))
def qu (own : Bool) : List V1 → List aq → Nat → (List V1 → List aq → List aq → OR) → OR
 | [], h, _, k => k [] h []
 | .one .any :: l, h, b, k => qu own l h b fun vs h os => k (.one .any :: vs) h os
 | .one x :: l, h, b, k => jH own [x] h b fun c h os => (match c with
  | [x] => qu own l h (b + os.length) fun vs h os' => k (.one x :: vs) h (os ++ os')
  | _ => none)
 | .agg c :: l, h, b, k => jH own c h b fun c h os => qu own l h (b + os.length) fun vs h os' => k (.agg c :: vs) h (os ++ os')
def Fg (P : Program) (s : AS) : List ResultVar → (List V1 → OR) → OR
 | [], k => k []
 | .tmp t :: l, k => (match s.tmps.getD t aa with
  | .v x => Fg P s l fun vs => k (x :: vs)
  | _ => none)
 | .cell a t :: l, k => mS P t (s.tmps.getD a aa) s.heap fun v => (match v with
  | .v x => Fg P s l fun vs => k (x :: vs)
  | _ => none)
def finish (P : Program) (own : Bool) (fn : Func) (m : Nat) (s : AS) : OR :=
 cond (Nat.ble m s.heap.length) (Fg P s fn.results.toList fun vs => qu own vs s.heap m fun vs h os => GL m m h fun ps => some (vs, ps ++ os)) none
def aS (a : IntKind) (l : List SV) (k : Int → List SV → OR) : OR := match l with | .int b n :: l => cond (Cc a b) (k n l) none | _ => none
def lX (l : List SV) (k : Bool → List SV → OR) : OR := match l with | .bool b :: l => k b l | _ => none
def E9 (l : List SV) (k : ByteArray → List SV → OR) : OR := match l with | .str x :: l => k x l | _ => none
def tsC (l : List SV) (k : List T → List SV → OR) : OR := match l with | .fr (.ts x) :: l => k x l | _ => none
def isC (l : List SV) (k : List Int → List SV → OR) : OR := match l with | .fr (.is x) :: l => k x l | _ => none
def Fi (l : List SV) (k : List (List Int) → List SV → OR) : OR := match l with | .fr (.iss x) :: l => k x l | _ => none
def ssC (l : List SV) (k : List ByteArray → List SV → OR) : OR := match l with | .fr (.ss x) :: l => k x l | _ => none
def bsC (l : List SV) (k : List UInt8 → List SV → OR) : OR := match l with | .fr (.bs x) :: l => k x l | _ => none
def Fc (l : List SV) (k : List SV → OR) : OR := match l with | _ :: l => k l | _ => none
def aQ (l : List SV) (k : OR) : OR := match l with | [] => k | _ => none
def slC (e : SK) (l : List SV) (k : SD → List SV → OR) : OR :=
 match e with
 | .t => tsC l fun x l => k (.ts x) l
 | .i => isC l fun x l => k (.is x) l
 | .ii => Fi l fun x l => k (.iss x) l
 | .s => ssC l fun x l => k (.ss x) l
 | .b => bsC l fun x l => k (.bs x) l
def aB (a : IntKind) (l : List V1) (k : Int → List V1 → OR) : OR := match l with | .one (.int b n) :: l => cond (Cc a b) (k n l) none | _ => none
def aD (l : List V1) (k : Bool → List V1 → OR) : OR := match l with | .one (.bool b) :: l => k b l | _ => none
def kB (l : List V1) (k : ByteArray → List V1 → OR) : OR := match l with | .one (.str x) :: l => k x l | _ => none
def rTs (l : List V1) (k : List T → List V1 → OR) : OR := match l with | .one (.fr (.ts x)) :: l => k x l | _ => none
def rIs (l : List V1) (k : List Int → List V1 → OR) : OR := match l with | .one (.fr (.is x)) :: l => k x l | _ => none
def Fa (l : List V1) (k : List (List Int) → List V1 → OR) : OR := match l with | .one (.fr (.iss x)) :: l => k x l | _ => none
def rSs (l : List V1) (k : List ByteArray → List V1 → OR) : OR := match l with | .one (.fr (.ss x)) :: l => k x l | _ => none
def rBs (l : List V1) (k : List UInt8 → List V1 → OR) : OR := match l with | .one (.fr (.bs x)) :: l => k x l | _ => none
def ag (l : List V1) (k : T → List V1 → OR) : OR := match l with | .agg [.int .i64 a, .int .i64 b, .fr (.ts x)] :: l => k (.mk a b x) l | _ => none
def eK (j : Nat) (l : List V1) (k : Int → Int → List V1 → OR) : OR := match l with | .agg [.int .i64 a, .int .i64 b, .own i 0] :: l => cond (Nat.beq i j) (k a b l) none | _ => none
def D6 (j : Nat) (l : List V1) (k : List V1 → OR) : OR := match l with | .one (.own i 0) :: l => cond (Nat.beq i j) (k l) none | _ => none
def Dr (j : Nat) (l : List V1) (k : List V1 → OR) : OR := match l with | .one (.ptr i 0) :: l => cond (Nat.beq i j) (k l) none | _ => none
def ai (l : List V1) (k : OR) : OR := match l with | [] => k | _ => none
def rSl (e : SK) (l : List V1) (k : SD → List V1 → OR) : OR :=
 match e with
 | .t => rTs l fun x l => k (.ts x) l
 | .i => rIs l fun x l => k (.is x) l
 | .ii => Fa l fun x l => k (.iss x) l
 | .s => rSs l fun x l => k (.ss x) l
 | .b => rBs l fun x l => k (.bs x) l
def aP (o : List aq) (k : List SV → List aq → OR) : OR := match o with | .cells l :: o => k l o | _ => none
def vu (o : List aq) (k : List aq → OR) : OR := match o with | _ :: o => k o | _ => none
def bW (e : TypeId) (o : List aq) (k : List T → List aq → OR) : OR := match o with | .arr e' (.ts x) 0 false :: o => cond (Nat.beq e e') (k x o) none | _ => none
def pE (e : TypeId) (o : List aq) (k : List Int → List aq → OR) : OR := match o with | .arr e' (.is x) 0 false :: o => cond (Nat.beq e e') (k x o) none | _ => none
def kO (e : TypeId) (o : List aq) (k : List (List Int) → List aq → OR) : OR := match o with | .arr e' (.iss x) 0 false :: o => cond (Nat.beq e e') (k x o) none | _ => none
def qg (e : TypeId) (o : List aq) (k : List ByteArray → List aq → OR) : OR := match o with | .arr e' (.ss x) 0 false :: o => cond (Nat.beq e e') (k x o) none | _ => none
def pG (e : TypeId) (o : List aq) (k : List UInt8 → List aq → OR) : OR := match o with | .arr e' (.bs x) 0 false :: o => cond (Nat.beq e e') (k x o) none | _ => none
def Gk (e : TypeId × SK) (o : List aq) (k : SD → List aq → OR) : OR :=
 match e.2 with
 | .t => bW e.1 o fun x o => k (.ts x) o
 | .i => pE e.1 o fun x o => k (.is x) o
 | .ii => kO e.1 o fun x o => k (.iss x) o
 | .s => qg e.1 o fun x o => k (.ss x) o
 | .b => pG e.1 o fun x o => k (.bs x) o
def aj (o : List aq) (k : OR) : OR := match o with | [] => k | _ => none
def yW (x : SV) (l : List SV) (k : SV → List SV → OR) : OR :=
 match x with
 | .int a _ => aS a l fun n l => k (.int a n) l
 | .bool _ => lX l fun n l => k (.bool n) l
 | .str _ => E9 l fun n l => k (.str n) l
 | .fr d => slC d.kind l fun d l => k (.fr d) l
 | .emp (some e) => slC e.2 l fun d l => k (.fr d) l
 | _ => Fc l fun l => k .any l
def rr : List SV → List SV → (List SV → OR) → OR
 | [], l, k => aQ l (k [])
 | x :: xs, l, k => yW x l fun y l => rr xs l fun ys => k (y :: ys)
def rJ : List aq → List aq → (List aq → List aq → OR) → OR
 | [], o, k => k [] o
 | .cells x :: xs, o, k => aP o fun l o => rr x l fun y => rJ xs o fun ys o => k (.cells y :: ys) o
 | _ :: xs, o, k => vu o fun o => rJ xs o fun ys o => k (.dead :: ys) o
def Fe (P : Program) (own : Bool) (c b : Nat) (t : TypeId) (l : List V1) (o : List aq) (k : V1 → List aq → List V1 → List aq → OR) : OR :=
 match P.underlying t with
 | some (.int a) => aB a l fun n l => k (.one (.int a n)) [] l o
 | some .bool => aD l fun n l => k (.one (.bool n)) [] l o
 | some .string => kB l fun n l => k (.one (.str n)) [] l o
 | some (.slice _) => (match cn P t with
  | some e => cond own (D6 c l fun l => Gk e o fun d o => k (.one (.own b 0)) [.arr e.1 d 0 false] l o) (rSl e.2 l fun d l => k (.one (.fr d)) [] l o)
  | none => none)
 | some (.struct _) => (match zc P t with
  | some .t => cond own (eK c l fun x y l => bW t o fun d o => k (.agg [.int .i64 x, .int .i64 y, .own b 0]) [.arr t (.ts d) 0 false] l o)
     (ag l fun x l => k (.agg [.int .i64 x.k, .int .i64 x.n, .fr (.ts x.kids)]) [] l o)
  | _ => none)
 | some (.pointer e) => Dr c l fun l => aP o fun y o => (match Ad P e with
  | some z => rr z y fun y => k (.one (.ptr b 0)) [.cells y] l o
  | none => none)
 | _ => none
def vO (P : Program) (own : Bool) : List TypeId → Nat → Nat → List V1 → List aq → (List V1 → List aq → OR) → OR
 | [], _, _, l, o, k => ai l (aj o (k [] []))
 | t :: ts, c, b, l, o, k => Fe P own c b t l o fun v n l o => vO P own ts (c + n.length) (b + n.length) l o fun vs ns => k (v :: vs) (n ++ ns)
structure Dec where
 own : FuncId → Bool
 ib : FuncId → Bool
abbrev Callee := FuncId → List V1 → List aq → OR
def HY : List V1 → AV
 | [x] => .v x
 | l => .tup l
def ga : List Nat → List aq → List aq → List aq
 | j :: js, o :: os, h => ga js os (h.set j o)
 | _, _, h => h
def H0 (b : Nat) (os h : List aq) : List aq := ga (List.range' b os.length) os h
def news (P : Program) (own : Bool) : List TypeId → Nat
 | [] => 0
 | t :: ts => (match P.underlying t with
  | some (.pointer _) => 1
  | some (.slice _) => cond own 1 0
  | some (.struct _) => cond own 1 0
  | _ => 0) + news P own ts
def jl (h : List aq) : List V1 → (List V1 → List aq → OR) → OR
 | [], k => k [] h
 | .one .any :: l, k => jl h l fun vs h => k (.one .any :: vs) h
 | .one x :: l, k => mg h x fun x h => jl h l fun vs h => k (.one x :: vs) h
 | .agg c :: l, k => jE h c fun c h => jl h l fun vs h => k (.agg c :: vs) h
def v1L : List AV → Option (List V1)
 | [] => some []
 | .v x :: l => (v1L l).map (x :: ·)
 | .tup _ :: _ => none
def xz : List Nat → Bool
 | [] => true
 | j :: l => !dc j l && xz l
def B8 (js : List Nat) (n : Nat) : Bool := xz js && js.all fun j => Nat.blt j n
def pN (P : Program) (F : Callee) (ow : Bool) (f : FuncId) (tys : List TypeId) (sl rm : Nat) (k : AV → List aq → OR) (args : List V1) (h : List aq) : OR :=
 let js := reach h 64 (args.flatMap yL) []
 cond (B8 js sl) (let hh := tw js h
  (F f (args.map (Fo js)) hh).bind fun r => rJ hh r.2 fun os o => vO P ow tys js.length sl r.1 o fun vs ns =>
   cond (Nat.ble ns.length rm) (k (HY vs) (H0 sl ns (ga js os h))) none) none
def tF (P : Program) (F : Callee) (D : Dec) (f : FuncId) (args : List V1) (h : List aq) (sl rm : Nat) (k : AV → List aq → OR) : OR :=
 match P.funcs[f]? with
 | none => none
 | some fn => cond (sv P f) (cond (D.own f) (pN P F true f fn.resultTypes.toList sl rm k args h) (jl h args (pN P F false f fn.resultTypes.toList sl rm k))) none
def gn (P : Program) (b : Builtin) (args : List AV) (tys : List TypeId) (h : List aq) (sl : Nat) (k : AV → List aq → OR) : OR :=
 match b, args, tys with
 | .len, [x], [t] => A3 P t x h fun v => k (.v (.one v)) h
 | .append, [x, y], [t, t'] => cond (Nat.beq t t') (jS P t x y h sl fun v h => k (.v (.one v)) h) none
 | .max, [x, y], _ => yD true x y fun v => k (.v (.one v)) h
 | .min, [x, y], _ => yD false x y fun v => k (.v (.one v)) h
 | _, _, _ => none
def zh : Nat → List (Nat × Operand) → Bool
 | _, [] => true
 | n, p :: l => Nat.beq p.1 n && zh (n + 1) l
def BM (P : Program) (t : TypeId) : Option (List (Nat × Nat)) := match P.underlying t with
 | some (.struct fs) => fs.toList.mapM fun f => (P.info? f.type).map fun i => (f.offset, i.size)
 | _ => none
def tM (pl : List (Nat × Nat)) : List SV → List (Nat × AV) → Option (List SV)
 | z, [] => some z
 | z, p :: l => pl[p.1]?.bind fun o => p.2.cs.bind fun c => cond (Nat.beq c.length o.2 && Nat.ble (o.1 + o.2) z.length) (tM pl (Fh z o.1 c) l) none
def qs (P : Program) (t : TypeId) (ps : List (Nat × AV)) (k : AV → OR) : OR :=
 (BM P t).bind fun pl => (Ad P t).bind fun z => (tM pl z ps).bind fun c => k (.v (.agg c))
def fO (P : Program) (D : Dec) (o : Oper) : Nat :=
 match o.op with
 | .alloc _ | .box .. | .buildSlice .. | .makeSlice .. => 1
 | .call c => (match c.callee with
  | .builtin .append => 1
  | .value (.func f) => (match P.funcs[f]? with | some fn => news P (D.own f) fn.resultTypes.toList | none => 0)
  | _ => 0)
 | _ => 0
def oq (P : Program) (F : Callee) (D : Dec) (o : Oper) (ρ : Operand → AV) (h : List aq) (sl : Nat) (k : AV → List aq → OR) : OR :=
 match o.op with
 | .move x => k (ng P o.type (ρ x)) h
 | .assign x => k (ng P o.type (ρ x)) h
 | .pick c a b => (match ρ c with | .v (.one (.bool t)) => cond t (k (ρ a) h) (k (ρ b) h) | _ => none)
 | .alloc e => (Ad P e).bind fun z => k (.v (.one (.ptr sl 0))) (h.set sl (.cells z))
 | .box e x => (ρ x).cs.bind fun c => k (.v (.one (.ptr sl 0))) (h.set sl (.cells c))
 | .build t ps => qs P t (ps.toList.map fun p => (p.1, ρ p.2)) fun v => k v h
 | .buildSlice t n ps => (match cn P t with
  | some e => cond (zh 0 ps.toList && (Nat.beq ps.toList.length n && Nat.ble n 4194304))
   ((csL (ps.toList.map fun p => ρ p.2)).bind fun cs => jK e.2 h cs e.2.nil fun d h => k (.v (.one (.own sl 0))) (h.set sl (.arr e.1 d 0 false))) none
  | none => none)
 | .load t x => mS P t (ρ x) h fun v => k v h
 | .store t x y => nT P t (ρ x) (ρ y) h fun h => k aa h
 | .nilCheck x => BQ h (ρ x) fun v => k (.v (.one v)) h
 | .binOp op t x y _ => BZ P op t (ρ x) (ρ y) fun v => k (.v (.one v)) h
 | .unOp op t x => Gh op (ρ x) fun v => k (.v (.one v)) h
 | .convert t t' x => sd P t t' (ρ x) h fun v => k (.v (.one v)) h
 | .makeFunc fn first caps => (match fn, first.toList with
  | .func f, [] => (tO h (caps.toList.map ρ)).bind fun l => k (.v (.one (.fn f l))) h
  | _, _ => none)
 | .makeSlice t x y => pU P t (ρ x) (ρ y) h sl fun v h => k (.v (.one v)) h
 | .slice t x lo hi mx => eY P t (ρ x) (lo.map ρ) (hi.map ρ) (mx.map ρ) h fun v h => k (.v (.one v)) h
 | .fieldAddr t x i => (jW P t i).bind fun d => nj h d (ρ x) fun v => k (.v (.one v)) h
 | .indexAddr t x i => fK P t (ρ x) (ρ i) h fun v => k (.v (.one v)) h
 | .index t x i => mY P t (ρ x) (ρ i) fun v => k (.v (.one v)) h
 | .extract x i => iw (ρ x) i fun v => k v h
 | .call c => (match c.callee with
  | .builtin b => gn P b (c.args.toList.map ρ) c.argTypes.toList h sl k
  | .value (.func f) => cond (D.ib f) (match c.args.toList.map ρ with
     | [.v (.one (.str a)), .v (.one (.int .u8 n))] => cond (decide (0 ≤ n) && decide (n ≤ 255)) (k (.v (.one (.int .i64 (Hr a (UInt8.ofNat n.toNat))))) h) none
     | _ => none) ((v1L (c.args.toList.map ρ)).bind fun l => tF P F D f l h sl (fO P D o) k)
  | .value x => (match ρ x with
   | .v (.one (.fn f l)) => (v1L (c.args.toList.map ρ)).bind fun vs => tF P F D f (vs ++ l.map fun j => .one (.ptr j 0)) h sl (fO P D o) k
   | _ => none)
  | _ => none)
 | _ => none
def iZ (b : Bool) : AV := .v (.one (.bool b))
def Ei : AV := .tup []
def y0 (ops : List Oper) (s : AS) (g : Option (Nat × Bool)) (yes no : AS → OR) : OR :=
 match g with
 | none => yes s
 | some (j, want) => (match ops[j]?.bind (·.dst) with
  | some d => (match s.tmps.getD d aa with
   | .v (.one (.bool b)) => cond b (cond want (yes (s.put (some d) (iZ true))) (no (s.put (some d) (iZ true))))
      (cond want (no (s.put (some d) (iZ false))) (yes (s.put (some d) (iZ false))))
   | .tup [] => no s
   | _ => none)
  | none => none)
noncomputable def same (a b : OR) : OR := by classical exact if a = b then a else none
theorem Aj (a : OR) : same a a = a := by unfold same; exact if_pos rfl
theorem CE {a b : OR} {r : List V1 × List aq} (h : same a b = some r) : a = some r ∧ b = some r := by
 unfold same at h
 split at h
 ·rename_i e; subst e; exact ⟨h, h⟩
 ·cases h
def HA (P : Program) (o : Oper) (ρ : Operand → AV) : Option Nat :=
 match o.op with
 | .binOp .eql t x (.const (.slice none 0 0)) _ => (match cn P t, ρ x with
  | some _, .v (.one (.fr d)) => some d.len
  | _, _ => none)
 | _ => none
noncomputable def oG (P : Program) (F : Callee) (D : Dec) (ops : List Oper) : List Oper → Nat → AS → (AS → OR) → OR
 | [], _, s, k => k s
 | o :: l, b, s, k => y0 ops s o.guard
    (fun s => match HA P o s.ev with
     | some m => cond (Nat.beq m 0)
        (same (oG P F D ops l (b + fO P D o) (s.put o.dst (iZ true)) k) (oG P F D ops l (b + fO P D o) (s.put o.dst (iZ false)) k))
        (oG P F D ops l (b + fO P D o) (s.put o.dst (iZ false)) k)
     | none => oq P F D o s.ev s.heap b fun v h => oG P F D ops l (b + fO P D o) ({ s with heap := h }.put o.dst v) k)
    (fun s => oG P F D ops l (b + fO P D o) (s.put o.dst Ei) k)
def room (P : Program) (D : Dec) : List Oper → Nat
 | [] => 0
 | o :: l => fO P D o + room P D l
def grow (n : Nat) (s : AS) : AS := { s with heap := s.heap ++ List.replicate n .dead }
def dL (js : List Nat) : Nat → List aq → List aq
 | _, [] => []
 | i, o :: h => cond (dc i js) o .dead :: dL js (i + 1) h
def iL (js : List Nat) : Nat → List aq → List aq → List aq
 | i, o :: h, o' :: h' => cond (dc i js) o' o :: iL js (i + 1) h h'
 | _, h, _ => h
structure FN where
 i : Nat
 fp : List Nat
 wr : List Nat
def meets (a b : List Nat) : Bool := a.any fun x => dc x b
def ahead (acc : List (List Nat)) (o : Oper) : List Nat :=
 o.after.toList.flatMap fun e => cond (Region.binds .any e) (e.on :: acc.getD e.on []) []
def Ff : List Oper → List (List Nat) → List (List Nat)
 | [], acc => acc
 | o :: l, acc => Ff l (acc ++ [ahead acc o])
def lE (ops : List Oper) (o : Oper) : List Nat :=
 (o.op.operands.toList.flatMap fun x => match x with | .tmp t => [t] | _ => []) ++
 (match o.guard with
  | some (g, _) => (match ops[g]?.bind (·.dst) with | some d => [d] | none => [])
  | none => [])
def Dd (o : Oper) : List Nat := match o.dst with | some d => [d] | none => []
def th (ops : List Oper) (x y : Oper) : Bool := !meets (Dd x) (lE ops y) && (!meets (Dd x) (Dd y) && !meets (Dd y) (lE ops x))
def Dz (o : Oper) : Bool := match o.op with | .select .. => false | _ => true
def xh (an : List (List Nat)) (i : Nat) (o : Oper) : Bool :=
 (o.after.toList.all fun e => cond (Region.binds .any e) (Nat.blt e.on i) true) &&
 (an.getD i []).all fun a => o.after.toList.any fun e => Region.binds .any e && (Nat.beq a e.on || dc a (an.getD e.on []))
def kq (ops : List Oper) (anc : List Nat) (i : Nat) (o : Oper) : List Oper → Nat → Bool
 | [], _ => true
 | x :: l, k => cond (Nat.blt k i) ((dc k anc || th ops x o) && kq ops anc i o l (k + 1)) true
def um (ops : List Oper) (an : List (List Nat)) : List Oper → Nat → Bool
 | [], _ => true
 | o :: l, i => Dz o && (xh an i o && (kq ops (an.getD i []) i o ops 0 && um ops an l (i + 1)))
def jX (anc : List Nat) (fp wr : List Nat) (d : FN) : Bool := dc d.i anc || (!meets d.wr fp && !meets wr d.fp)
def writes (o : Oper) (fp : List Nat) (b n : Nat) : List Nat :=
 (match o.op with
 | .store .. => fp
 | .buildSlice .. => fp
 | .slice .. => fp
 | .call c => (match c.callee with | .builtin .append => fp | .builtin _ => [] | _ => fp)
 | _ => []) ++ List.range' b n
def ma (h : List aq) (fp rf : List Nat) : Bool := rf.all (dc · fp) && fp.all fun j => (rC h[j]?).all (dc · fp)
def refsOf (s : AS) (o : Oper) : List Nat := o.op.operands.toList.flatMap fun x => l6 (s.ev x)
def ni (o : Oper) : Bool := match o.op with
 | .move _ => true
 | .assign _ => true
 | .pick .. => true
 | .binOp .. => true
 | .unOp .. => true
 | .build .. => true
 | .index .. => true
 | .extract .. => true
 | _ => false
def Dh (P : Program) (F : Callee) (D : Dec) (ops : List Oper) (an : List (List Nat)) : List Oper → Nat → List FN → Nat → AS → (AS → OR) → OR
 | [], _, _, _, s, k => k s
 | o :: l, i, ds, b, s, k =>
  y0 ops s o.guard
   (fun s => cond (ni o) (oq P F D o s.ev [] 0 fun v _ => cond ((l6 v).all (dc · (refsOf s o))) (Dh P F D ops an l (i + 1) ds (b + fO P D o) (s.put o.dst v) k) none)
    (let n := fO P D o
    let rf := refsOf s o
    let fp0 := reach s.heap 64 rf []
    let fp := fp0 ++ List.range' b n
    let wr := writes o fp b n
    cond (ma s.heap fp rf && (fp0.all (Nat.blt · b) && ds.all (jX (an.getD i []) fp wr))) (oq P F D o s.ev (dL fp 0 s.heap) b fun v h =>
     cond (ma h fp (l6 v)) (Dh P F D ops an l (i + 1) (⟨i, fp, wr⟩ :: ds) (b + n) ({ s with heap := iL wr 0 s.heap h }.put o.dst v) k) none) none))
   (fun s => Dh P F D ops an l (i + 1) ds (b + fO P D o) (s.put o.dst Ei) k)
def gK (live : List Nat) : Nat → List AV → List AV
 | _, [] => []
 | i, v :: l => cond (dc i live) v aa :: gK live (i + 1) l
def Fk (b : Nat) : SV → SV × List aq
 | .emp (some e) => (.own b 0, [.arr e.1 e.2.nil 0 false])
 | x => (x, [])
def Fj (b : Nat) : List SV → List SV × List aq
 | [] => ([], [])
 | x :: l => let (x, o) := Fk b x; let (l, o') := Fj (b + o.length) l; (x :: l, o ++ o')
def Hp (b : Nat) : AV → AV × List aq
 | .v (.one x) => let (x, o) := Fk b x; (.v (.one x), o)
 | .v (.agg l) => let (l, o) := Fj b l; (.v (.agg l), o)
 | x => (x, [])
def lq (b : Nat) : List AV → List AV × List aq
 | [] => ([], [])
 | x :: l => let (x, o) := Hp b x; let (l, o') := lq (b + o.length) l; (x :: l, o ++ o')
def wF (b : Nat) : List aq → List aq × List aq
 | [] => ([], [])
 | .cells c :: l => let (c, o) := Fj b c; let (l, o') := wF (b + o.length) l; (.cells c :: l, o ++ o')
 | x :: l => let (l, o) := wF b l; (x :: l, o)
def C8 (h : List aq) : SV → SV
 | .own j v => (match h[j]? with
  | some (.arr _ _ ver _) => cond (Nat.beq v ver) (.own j 0) .any
  | _ => .any)
 | .op .. => .any
 | x => x
def HN (h : List aq) : AV → AV
 | .v (.one x) => .v (.one (C8 h x))
 | .v (.agg l) => .v (.agg (l.map (C8 h)))
 | .tup l => aa
def Gi (h : List aq) : aq → aq
 | .cells l => .cells (l.map (C8 h))
 | .arr e d _ z => .arr e d 0 z
 | .dead => .dead
def y3 : List Nat → List Nat → Bool
 | [], [] => true
 | a :: l, b :: m => Nat.beq a b && y3 l m
 | _, _ => false
def gc (m : Nat) (s : AS) : AS :=
 let js := reach s.heap 64 (((List.range m).flatMap fun j => rC s.heap[j]?) ++ s.tmps.flatMap l6) (List.range m)
 cond (B8 js s.heap.length && y3 (js.take m) (List.range m)) ⟨s.tmps.map (Hj js), tw js s.heap⟩ s
def qh (s : AS) : AS :=
 let (t, o) := lq s.heap.length s.tmps
 let (h, o') := wF (s.heap.length + o.length) s.heap
 ⟨t, h ++ (o ++ o')⟩
def Fb (s : AS) : AS := ⟨s.tmps.map (HN s.heap), s.heap.map (Gi s.heap)⟩
def lN (m : Nat) (live : Option (List Nat)) (s : AS) : AS :=
 match live with
 | some live => Fb (gc m (qh (gc m { s with tmps := gK live 0 s.tmps })))
 | none => s
def AE : Nat → Nat → List aq → (List aq → OR) → OR
 | 0, _, h, k => k h
 | n + 1, j, h, k => (match h[j]? with
  | some (.cells c) => jE h c fun c h => AE n (j + 1) (h.set j (.cells c)) k
  | _ => AE n (j + 1) h k)
inductive Ex | normal | exit (id : Nat) | ret
abbrev xr := Ex → AS → OR
def evL (body : AS → xr → OR) (nm : AS → AS) : Nat → AS → xr → OR
 | 0, _, _ => none
 | n + 1, s, k => body s fun e s => match e with
  | .normal => evL body nm n (nm s) k
  | e => k e s
structure Env where
 P : Program
 F : Callee
 D : Dec
 n : Nat
 m : Nat
 live : Nat → Option (List Nat)
def GX (E : Env) (evb : AS → xr → OR) (k : xr) : xr := fun e s => match e with
 | .normal => evb s k
 | e => k e s
def zg (id : Nat) (k : xr) : xr := fun e s => match e with
 | .exit i => cond (Nat.beq i id) (k .normal s) (k (.exit i) s)
 | e => k e s
def AS.C0 (s : AS) (c : Operand) (b : Bool) : AS :=
 match c with
 | .tmp t => s.put (some t) (iZ b)
 | _ => s
def E5 (E : Env) (ops : List Oper) (s : AS) (k : xr) : OR :=
 cond (um ops (Ff ops []) ops 0) (Dh E.P E.F E.D ops (Ff ops []) ops 0 [] s.heap.length (grow (room E.P E.D ops) s) fun s => k .normal s) none
noncomputable def evC (E : Env) : Nat → Code → AS → xr → OR
 | _, .skip, s, k => k .normal s
 | _, .region id ops draw, s, k => cond draw
    (match E.live (1000000 + id) with
     | some _ => AE s.heap.length 0 s.heap fun h => E5 E ops.toList ⟨s.tmps, h⟩ k
     | none => E5 E ops.toList s k)
    (oG E.P E.F E.D ops.toList ops.toList s.heap.length (grow (room E.P E.D ops.toList) s) fun s => k .normal s)
 | i, .seq a b, s, k => evC E i a s (GX E (evC E i b) k)
 | i, .cond c a b, s, k => (match s.ev c with
  | .v (.one (.bool t)) => cond t (evC E i a (s.C0 c true) k) (evC E i b (s.C0 c false) k)
  | _ => none)
 | _, .block id b, s, k => evC E id b s (zg id k)
 | i, .loop b, s, k => evL (evC E i b) (lN E.m (E.live i)) E.n (lN E.m (E.live i) s) k
 | _, .exit id, s, k => k (.exit id) s
 | _, .ret, s, k => k .ret s
 | _, _, _, _ => none
def HV (P : Program) (own : Bool) (fn : Func) (m : Nat) : xr := fun e s => match e with
 | .normal => finish P own fn m s
 | .ret => finish P own fn m s
 | .exit _ => none
structure Say where
 D : Dec
 live : FuncId → Nat → Option (List Nat)
 prim : FuncId → Option (List V1 → OR)
noncomputable def evF (P : Program) (S : Say) : Nat → Callee
 | 0, _, _, _ => none
 | n + 1, f, args, h => match S.prim f with
  | some g => (match h with | [] => g args | _ => none)
  | none => (match P.funcs[f]? with
   | some fn => (match fn.body with
    | some c => evC ⟨P, evF P S n, S.D, n, h.length, S.live f⟩ 0 c ⟨args.map .v ++ List.replicate (fn.ntmps - args.length) aa, h⟩ (HV P (S.D.own f) fn h.length)
    | none => none)
   | none => none)
end Go.Ab
namespace Go.Ab
open Go Go.Dk
def aw {α β : Type} (R : α → β → Prop) (l : List α) (m : List β) : Prop := l.length = m.length ∧ ∀ (i : Nat) a b, l[i]? = some a → m[i]? = some b → R a b
section
variable {α β γ : Type} {R S : α → β → Prop}
theorem aw.nil : aw R [] [] := ⟨rfl, fun i a b h => by simp at h⟩
theorem aw.cons {a : α} {b : β} {l : List α} {m : List β} (h : R a b) (k : aw R l m) : aw R (a :: l) (b :: m) := by
 refine ⟨by simp [k.1], fun i x y hx hy => ?_⟩
 cases i with
 | zero => simp at hx hy; subst hx hy; exact h
 | succ i => simp at hx hy; exact k.2 i x y hx hy
theorem aw.cons_inv {a : α} {l : List α} {m : List β} (h : aw R (a :: l) m) : ∃ b m', m = b :: m' ∧ R a b ∧ aw R l m' := by
 cases m with
 | nil => simp [aw] at h
 | cons b m => exact ⟨b, m, rfl, h.2 0 a b rfl rfl, by simpa using h.1, fun i x y hx hy => h.2 (i + 1) x y (by simpa using hx) (by simpa using hy)⟩
theorem aw.aV {m : List β} (h : aw R [] m) : m = [] := by cases m with | nil => rfl | cons b m => simp [aw] at h
theorem aw.mono {l : List α} {m : List β} (h : aw R l m) (hm : ∀ a b, a ∈ l → R a b → S a b) : aw S l m :=
 ⟨h.1, fun i a b ha hb => hm a b (List.mem_of_getElem? ha) (h.2 i a b ha hb)⟩
theorem aw.get {l : List α} {m : List β} (h : aw R l m) {i : Nat} {a : α} (ha : l[i]? = some a) : ∃ b, m[i]? = some b ∧ R a b := by
 have hi : i < l.length := by
  rcases Nat.lt_or_ge i l.length with h' | h'
  ·exact h'
  ·rw [List.getElem?_eq_none h'] at ha; cases ha
 have hb : m[i]? = some (m[i]'(by rw [← h.1]; exact hi)) := List.getElem?_eq_getElem _
 exact ⟨_, hb, h.2 i a _ ha hb⟩
theorem aw.get' {l : List α} {m : List β} (h : aw R l m) {i : Nat} {b : β} (hb : m[i]? = some b) : ∃ a, l[i]? = some a ∧ R a b := by
 have hi : i < m.length := by
  rcases Nat.lt_or_ge i m.length with h' | h'
  ·exact h'
  ·rw [List.getElem?_eq_none h'] at hb; cases hb
 have ha : l[i]? = some (l[i]'(by rw [h.1]; exact hi)) := List.getElem?_eq_getElem _
 exact ⟨_, ha, h.2 i _ b ha hb⟩
theorem aw.set {l : List α} {m : List β} (h : aw R l m) (i : Nat) {a : α} {b : β} (hab : R a b) : aw R (l.set i a) (m.set i b) := by
 refine ⟨by simp [h.1], fun j x y hx hy => ?_⟩
 by_cases hij : i = j
 ·subst hij
  rw [List.getElem?_set_self'] at hx hy
  cases hl : l[i]? with
  | none => simp [hl] at hx
  | some x' =>
   obtain ⟨y', hy', _⟩ := h.get hl
   simp [hl, hy'] at hx hy
   subst hx hy; exact hab
 ·rw [List.getElem?_set_ne hij] at hx hy
  exact h.2 j x y hx hy
theorem aw.append {l l' : List α} {m m' : List β} (h : aw R l m) (k : aw R l' m') : aw R (l ++ l') (m ++ m') := by
 refine ⟨by simp [h.1, k.1], fun i x y hx hy => ?_⟩
 rcases Nat.lt_or_ge i l.length with hi | hi
 ·rw [List.getElem?_append_left hi] at hx
  rw [List.getElem?_append_left (by rw [← h.1]; exact hi)] at hy
  exact h.2 i x y hx hy
 ·rw [List.getElem?_append_right hi] at hx
  rw [List.getElem?_append_right (by rw [← h.1]; exact hi), ← h.1] at hy
  exact k.2 _ x y hx hy
theorem aw.take {l : List α} {m : List β} (h : aw R l m) (n : Nat) : aw R (l.take n) (m.take n) := by
 refine ⟨by simp [h.1], fun i x y hx hy => ?_⟩
 rw [List.getElem?_take] at hx hy
 split at hx
 ·rename_i hi; rw [if_pos hi] at hy; exact h.2 i x y hx hy
 ·cases hx
theorem aw.drop {l : List α} {m : List β} (h : aw R l m) (n : Nat) : aw R (l.drop n) (m.drop n) := by
 refine ⟨by simp [h.1], fun i x y hx hy => ?_⟩
 rw [List.getElem?_drop] at hx hy
 exact h.2 _ x y hx hy
theorem aw.px {l l' : List α} {m : List β} (h : aw R (l ++ l') m) : ∃ m1 m2, m = m1 ++ m2 ∧ aw R l m1 ∧ aw R l' m2 := by
 refine ⟨m.take l.length, m.drop l.length, (List.take_append_drop _ _).symm, ?_, ?_⟩
 ·have := h.take l.length; simpa using this
 ·have := h.drop l.length; simpa using this
theorem aw.replicate {a : α} {b : β} (h : R a b) (n : Nat) : aw R (List.replicate n a) (List.replicate n b) := by
 refine ⟨by simp, fun i x y hx hy => ?_⟩
 have h1 := List.mem_of_getElem? hx
 have h2 := List.mem_of_getElem? hy
 rw [(List.mem_replicate.1 h1).2, (List.mem_replicate.1 h2).2]; exact h
end
inductive GO | cells (b : Nat) (T : TypeId) (vs : List Value) | arr (ver : Nat) (v : Value) (sz : Nat) (xs : List Value) | gone | fresh
def bT (w : World) (b off : Nat) (xs : List Value) : Prop := ∀ (i : Nat) x, xs[i]? = some x → w.cell? ⟨b, off + i, none⟩ = some x
def SlI (Z : bn) (w : World) (l : List Int) (x : Value) : Prop := ∃ a cap, x = .slice a l.length cap ∧ l.length ≤ cap ∧ l.length ≤ maxLen ∧
 (l = [] ∨ ∃ b off, a = some ⟨b, off, none⟩ ∧ Z b ∧ bT w b off (l.map (.int .i64 ·)))
def aE (Z : bn) (w : World) : SD → List Value → Prop
 | .ts l, xs => ∃ hs : List HT, hs.map HT.er = l ∧ xs = fo hs ∧ ∀ h ∈ hs, Rd Z w h
 | .is l, xs => xs = l.map (.int .i64 ·)
 | .iss l, xs => aw (SlI Z w) l xs
 | .ss l, xs => xs = l.map .string
 | .bs l, xs => xs = l.map fun c => .int .u8 (c.toNat : Int)
def SlR (Z : bn) (w : World) (d : SD) (x : Value) : Prop := ∃ a cap xs, x = .slice a d.len cap ∧ d.len ≤ cap ∧ d.len ≤ maxLen ∧ aE Z w d xs ∧
 (xs = [] ∨ ∃ b off, a = some ⟨b, off, none⟩ ∧ Z b ∧ bT w b off xs)
def bZ (Z : bn) (w : World) : SE → List Value → Prop
 | .t x, cs => ∃ h : HT, h.er = x ∧ Rd Z w h ∧ cs = [.int .i64 h.k, .int .i64 h.n, h.sl]
 | .i n, cs => cs = [.int .i64 n]
 | .ii l, cs => ∃ x, cs = [x] ∧ SlI Z w l x
 | .s x, cs => cs = [.string x]
 | .b c, cs => cs = [.int .u8 (c.toNat : Int)]
def EpR (Z : bn) (w : World) (e : SE) (o : Nat) (x : Value) : Prop := ∃ b off cs, x = .pointer (some ⟨b, off + o, none⟩) ∧ Z b ∧ bT w b off cs ∧ bZ Z w e cs
def pv (b o : Nat) : Value := .pointer (some ⟨b, o, none⟩)
def RS (G : List GO) (Z : bn) (w : World) : SV → Value → Prop
 | .int k n, x => x = .int k n
 | .bool b, x => x = .bool b
 | .str s, x => x = .string s
 | .emp _, x => ∃ a, x = .slice a 0 0
 | .fr d, x => SlR Z w d x
 | .own j v, x => G[j]? = some .gone ∨ ∃ ver val sz xs, G[j]? = some (.arr ver val sz xs) ∧ v ≤ ver ∧ (v = ver → x = val)
 | .ptr j o, x => G[j]? = some .gone ∨ ∃ b T vs, G[j]? = some (.cells b T vs) ∧ x = pv b o
 | .ep e o, x => EpR Z w e o x
 | .op j v i o, x => G[j]? = some .gone ∨ ∃ ver val sz xs, G[j]? = some (.arr ver val sz xs) ∧ v ≤ ver ∧ (v = ver → ∃ b off n c, val = .slice (some ⟨b, off, none⟩) n c ∧ i < n ∧ x = pv b (off + i * sz + o))
 | .fn f l, x => ∃ bs : List Nat, x = .func (.func f) #[] (bs.map fun b => pv b 0).toArray ∧ aw (fun j b => G[j]? = some .gone ∨ ∃ T vs, G[j]? = some (.cells b T vs)) l bs
 | .nilp, x => x = .pointer none
 | .any, _ => True
def cM (G : List GO) (Z : bn) (w : World) (v : SV) (x : Value) : Prop := RS G Z w v x ∧ r5 x = true
def RV1 (G : List GO) (Z : bn) (w : World) : V1 → Value → Prop
 | .one s, x => RS G Z w s x ∧ (s ≠ .any → r5 x = true)
 | .agg l, x => ∃ xs : List Value, x = .agg xs.toArray ∧ aw (cM G Z w) l xs
def RV (G : List GO) (Z : bn) (w : World) : AV → Value → Prop
 | .v v, x => RV1 G Z w v x
 | .tup l, x => ∃ xs : List Value, x = .tuple xs.toArray ∧ aw (RV1 G Z w) l xs
def iW (e sz : Nat) (v : Value) (n : Nat) (xs : List Value) : Res :=
 match v with
 | .slice a _ 0 => ⟨fun _ => False, fun _ => n = 0 ∧ xs = [] ∧ v = .slice a 0 0⟩
 | v => yw e sz v n xs
theorem yi (e sz : Nat) (v : Value) (n : Nat) (xs : List Value) : (iW e sz v n xs).Local := by
 unfold iW
 split
 ·exact fun _ _ _ h => h
 ·exact yS _ _ _ _ _
def ji : aq → GO → List Res
 | .cells _, .cells b T vs => [blk b vs T]
 | .arr e d _ false, .arr _ v sz xs => [iW e sz v d.len xs]
 | _, _ => []
def RO (G : List GO) (Z : bn) (w : World) : aq → GO → Prop
 | .cells l, .cells b T vs => aw (cM G Z w) l vs
 | .arr e d ver fz, .arr ver' v sz xs => ver = ver' ∧ sz = d.kind.size ∧ cond fz (SlR Z w d v) (aE Z w d xs ∧ ∃ a c, v = .slice a d.len c)
 | .dead, .gone => True
 | .dead, .fresh => True
 | _, _ => False
def aU : List aq → List GO → List Res
 | o :: h, g :: G => ji o g ++ aU h G
 | _, _ => []
def B9 (s : AS) (G : List GO) (tv : List Value) : Fact := fun Z w => aw (RV G Z w) s.tmps tv ∧ aw (RO G Z w) s.heap G
structure bq (w0 : World) (M Z0 : bn) (b : Nat) (G : List GO) (s : AS) (tv : List Value) (w : World) : Prop where
 st : St w0 M Z0 (aU s.heap G) (B9 s G tv) w
 fresh : ∀ j, b ≤ j → j < G.length → G[j]? = some .fresh
 mz : ∀ k, M k → Z0 k
section
variable {Z Z' : bn} {w w' : World}
abbrev fZ (Z Z' : bn) (w w' : World) : Prop := ∀ b, Z b → b < w.heap.size → Z' b ∧ w'.heap[b]? = w.heap[b]?
theorem bT.lt {b off : Nat} {xs : List Value} (h : bT w b off xs) (hne : xs ≠ []) : b < w.heap.size := by
 cases xs with
 | nil => exact absurd rfl hne
 | cons x xs => exact AG (h 0 x rfl)
theorem bT.F2 {b off : Nat} {xs : List Value} (h : bT w b off xs) (hk : w'.heap[b]? = w.heap[b]?) : bT w' b off xs :=
 fun i x hx => (kc hk).trans (h i x hx)
theorem SlI.aM (hz : fZ Z Z' w w') {l : List Int} {x : Value} (h : SlI Z w l x) : SlI Z' w' l x := by
 obtain ⟨a, cap, hx, h1, h2, h3⟩ := h
 refine ⟨a, cap, hx, h1, h2, ?_⟩
 rcases h3 with h3 | ⟨b, off, ha, hb, hc⟩
 ·exact .inl h3
 ·by_cases hl : l = []
  ·exact .inl hl
  ·have hlt := hc.lt (by simpa using hl)
   exact .inr ⟨b, off, ha, (hz b hb hlt).1, hc.F2 (hz b hb hlt).2⟩
theorem aE.aM (hz : fZ Z Z' w w') {d : SD} {xs : List Value} (h : aE Z w d xs) : aE Z' w' d xs := by
 cases d with
 | ts l => obtain ⟨hs, h1, h2, h3⟩ := h; exact ⟨hs, h1, h2, fun t ht => Rd.aM Z Z' w w' hz t (h3 t ht)⟩
 | is l => exact h
 | iss l => exact aw.mono h (fun _ _ _ hh => hh.aM hz)
 | ss l => exact h
 | bs l => exact h
theorem SlR.aM (hz : fZ Z Z' w w') {d : SD} {x : Value} (h : SlR Z w d x) : SlR Z' w' d x := by
 obtain ⟨a, cap, xs, hx, h1, h2, h3, h4⟩ := h
 refine ⟨a, cap, xs, hx, h1, h2, h3.aM hz, ?_⟩
 rcases h4 with h4 | ⟨b, off, ha, hb, hc⟩
 ·exact .inl h4
 ·by_cases hl : xs = []
  ·exact .inl hl
  ·have hlt := hc.lt hl
   exact .inr ⟨b, off, ha, (hz b hb hlt).1, hc.F2 (hz b hb hlt).2⟩
theorem bZ.aM (hz : fZ Z Z' w w') {e : SE} {cs : List Value} (h : bZ Z w e cs) : bZ Z' w' e cs := by
 cases e with
 | t x => obtain ⟨t, h1, h2, h3⟩ := h; exact ⟨t, h1, Rd.aM Z Z' w w' hz t h2, h3⟩
 | i n => exact h
 | ii l => obtain ⟨x, h1, h2⟩ := h; exact ⟨x, h1, h2.aM hz⟩
 | s x => exact h
 | b c => exact h
theorem bZ.ne {e : SE} {cs : List Value} (h : bZ Z w e cs) : cs ≠ [] := by
 cases e with
 | t x => obtain ⟨t, h1, h2, h3⟩ := h; simp [h3]
 | i n => simp only [bZ] at h; simp [h]
 | ii l => obtain ⟨x, h1, h2⟩ := h; simp [h1]
 | s x => simp only [bZ] at h; simp [h]
 | b c => simp only [bZ] at h; simp [h]
theorem EpR.aM (hz : fZ Z Z' w w') {e : SE} {o : Nat} {x : Value} (h : EpR Z w e o x) : EpR Z' w' e o x := by
 obtain ⟨b, off, cs, hx, hb, hc, hr⟩ := h
 have hlt := hc.lt hr.ne
 exact ⟨b, off, cs, hx, (hz b hb hlt).1, hc.F2 (hz b hb hlt).2, hr.aM hz⟩
theorem RS.aM {G : List GO} (hz : fZ Z Z' w w') {s : SV} {x : Value} (h : RS G Z w s x) : RS G Z' w' s x := by
 cases s with
 | fr d => exact SlR.aM hz h
 | ep e o => exact EpR.aM hz h
 | _ => exact h
theorem RV1.aM {G : List GO} (hz : fZ Z Z' w w') {v : V1} {x : Value} (h : RV1 G Z w v x) : RV1 G Z' w' v x := by
 cases v with
 | one s => exact ⟨h.1.aM hz, h.2⟩
 | agg l => obtain ⟨xs, hx, hh⟩ := h; exact ⟨xs, hx, hh.mono fun _ _ _ k => ⟨k.1.aM hz, k.2⟩⟩
theorem RV.aM {G : List GO} (hz : fZ Z Z' w w') {v : AV} {x : Value} (h : RV G Z w v x) : RV G Z' w' v x := by
 cases v with
 | v v => exact RV1.aM hz h
 | tup l => obtain ⟨xs, hx, hh⟩ := h; exact ⟨xs, hx, hh.mono fun _ _ _ k => k.aM hz⟩
theorem RO.aM {G : List GO} (hz : fZ Z Z' w w') {o : aq} {g : GO} (h : RO G Z w o g) : RO G Z' w' o g := by
 cases o with
 | cells l => cases g with
  | cells b T vs => exact aw.mono h fun _ _ _ k => ⟨k.1.aM hz, k.2⟩
  | _ => exact h
 | arr e d ver fz => cases g with
  | arr ver' v sz xs =>
   obtain ⟨h1, h2, h3⟩ := h
   refine ⟨h1, h2, ?_⟩
   cases fz with
   | true => exact SlR.aM hz h3
   | false => exact ⟨aE.aM hz h3.1, h3.2⟩
  | _ => exact h
 | dead => cases g <;> exact h
theorem aR (s : AS) (G : List GO) (tv : List Value) : lR (B9 s G tv) := fun Z Z' w w' hz h =>
 ⟨h.1.mono fun _ _ _ k => k.aM hz, h.2.mono fun _ _ _ k => k.aM hz⟩
end
theorem p8 (o : aq) (g : GO) : ∀ r ∈ ji o g, r.Local := by
 intro r hr
 unfold ji at hr
 split at hr
 ·rw [List.mem_singleton] at hr; subst hr; exact sk _ _ _
 ·rw [List.mem_singleton] at hr; subst hr; exact yi _ _ _ _ _
 ·cases hr
theorem cC (g : GO) : ji .dead g = [] := by cases g <;> rfl
theorem dn : ∀ (h : List aq) (G : List GO) (j : Nat) {o : aq} {g : GO}, h[j]? = some o → G[j]? = some g → (aU h G).Perm (ji o g ++ aU (h.set j .dead) (G.set j .gone))
 | [], _, j, o, g, hj, _ => by simp at hj
 | _ :: _, [], j, o, g, _, gj => by simp at gj
 | x :: h, y :: G, 0, o, g, hj, gj => by
  simp only [List.getElem?_cons_zero, Option.some.injEq] at hj gj
  subst hj gj
  simp only [List.set_cons_zero, aU, cC, List.nil_append]
  exact List.Perm.refl _
 | x :: h, y :: G, j + 1, o, g, hj, gj => by
  simp only [List.getElem?_cons_succ] at hj gj
  simp only [List.set_cons_succ, aU]
  have := (dn h G j hj gj).append_left (ji x y)
  refine this.trans ?_
  rw [← List.append_assoc, ← List.append_assoc]
  exact List.perm_append_comm.append_right _
theorem vg {h : List aq} {G : List GO} {j : Nat} (o : aq) (g : GO) (hj : j < h.length) (gj : j < G.length) : (ji o g ++ aU (h.set j .dead) (G.set j .gone)).Perm (aU (h.set j o) (G.set j g)) := by
 have := dn (h.set j o) (G.set j g) j (o := o) (g := g) (by simp [hj]) (by simp [gj])
 rw [List.set_set, List.set_set] at this
 exact this.symm
theorem bC : ∀ {h h' : List aq} {G G' : List GO}, h.length = G.length → aU (h ++ h') (G ++ G') = aU h G ++ aU h' G'
 | [], _, [], _, _ => rfl
 | x :: h, h', y :: G, G', hl => by simp only [List.cons_append, aU]; rw [bC (by simpa using hl), List.append_assoc]
 | [], _, _ :: _, _, hl => by simp at hl
 | _ :: _, _, [], _, hl => by simp at hl
theorem su : ∀ (n : Nat) (G : List GO), aU (List.replicate n .dead) G = []
 | 0, _ => rfl
 | n + 1, [] => rfl
 | n + 1, g :: G => by rw [List.replicate_succ, aU, cC, su n G]; rfl
theorem _root_.Go.Dk.St.sub {w0 w : World} {M Z0 : bn} {L L' : List Res} {φ : Fact} (h : St w0 M Z0 L φ w) (hs : L'.Sublist L) : St w0 M Z0 L' φ w :=
 ⟨h.ext, fun r hr => h.own r (hs.subset hr), fun r hr => h.loc r (hs.subset hr), fun r hr => h.key r (hs.subset hr), h.dis.sublist hs, h.stab,
  h.stab _ _ w w (fun b hz _ => ⟨⟨hz.1, fun r hr => hz.2 r (hs.subset hr)⟩, rfl⟩) h.per⟩
theorem _root_.Go.Dk.St.jv {w0 w : World} {M Z0 : bn} {L : List Res} {φ ψ : Fact} (h : St w0 M Z0 L φ w) (hs : lR ψ) (hp : φ (jc w0 Z0 L) w → ψ (jc w0 Z0 L) w) : St w0 M Z0 L ψ w :=
 ⟨h.ext, h.own, h.loc, h.key, h.dis, hs, hp h.per⟩
def Up (G G' : List GO) : Prop := ∀ (j : Nat),
 (G[j]? = some .gone → G'[j]? = some .gone) ∧
 (∀ b T vs, G[j]? = some (.cells b T vs) → G'[j]? = some .gone ∨ ∃ T' vs', G'[j]? = some (.cells b T' vs')) ∧
 (∀ ver val sz xs, G[j]? = some (.arr ver val sz xs) → G'[j]? = some .gone ∨ ∃ ver' val' xs', G'[j]? = some (.arr ver' val' sz xs') ∧ (ver < ver' ∨ (ver = ver' ∧ val = val')))
theorem Up.refl (G : List GO) : Up G G := fun j => ⟨id, fun b T vs h => .inr ⟨T, vs, h⟩, fun ver val sz xs h => .inr ⟨ver, val, xs, h, .inr ⟨rfl, rfl⟩⟩⟩
theorem Up.trans {G G' G'' : List GO} (h : Up G G') (k : Up G' G'') : Up G G'' := by
 intro j
 refine ⟨fun hh => (k j).1 ((h j).1 hh), fun b T vs hh => ?_, fun ver val sz xs hh => ?_⟩
 ·rcases (h j).2.1 b T vs hh with h1 | ⟨T', vs', h1⟩
  ·exact .inl ((k j).1 h1)
  ·exact (k j).2.1 b T' vs' h1
 ·rcases (h j).2.2 ver val sz xs hh with h1 | ⟨ver', val', xs', h1, h2⟩
  ·exact .inl ((k j).1 h1)
  ·rcases (k j).2.2 ver' val' sz xs' h1 with h3 | ⟨ver'', val'', xs'', h3, h4⟩
   ·exact .inl h3
   ·refine .inr ⟨ver'', val'', xs'', h3, ?_⟩
    rcases h2 with h2 | ⟨rfl, rfl⟩
    ·rcases h4 with h4 | ⟨rfl, rfl⟩
     ·exact .inl (by omega)
     ·exact .inl h2
    ·exact h4
theorem Up.set {G : List GO} {j : Nat} {g : GO} (h : ∀ g0, G[j]? = some g0 → match g0, g with
   | .fresh, _ => True
   | _, .gone => True
   | .cells b _ _, .cells b' _ _ => b = b'
   | .arr ver val sz _, .arr ver' val' sz' _ => sz = sz' ∧ (ver < ver' ∨ (ver = ver' ∧ val = val'))
   | _, _ => False) : Up G (G.set j g) := by
 intro i
 by_cases hij : j = i
 ·subst hij
  cases hg : G[j]? with
  | none => exact ⟨nofun, nofun, nofun⟩
  | some g0 =>
   have hlt : j < G.length := by
    rcases Nat.lt_or_ge j G.length with h' | h'
    ·exact h'
    ·rw [List.getElem?_eq_none h'] at hg; cases hg
   have hs : (G.set j g)[j]? = some g := by simp [hlt]
   have hh := h g0 hg
   refine ⟨fun e => ?_, fun b T vs e => ?_, fun ver val sz xs e => ?_⟩
   ·obtain rfl := Option.some.inj e; rw [hs]; cases g <;> first | rfl | exact hh.elim
   ·obtain rfl := Option.some.inj e; rw [hs]
    cases g with
    | gone => exact .inl rfl
    | cells b' T' vs' => have hh : b = b' := hh; subst hh; exact .inr ⟨T', vs', rfl⟩
    | _ => exact hh.elim
   ·obtain rfl := Option.some.inj e; rw [hs]
    cases g with
    | gone => exact .inl rfl
    | arr ver' val' sz' xs' => obtain ⟨rfl, hh⟩ := hh; exact .inr ⟨ver', val', xs', rfl, hh⟩
    | _ => exact hh.elim
 ·rw [List.getElem?_set_ne hij]
  exact ⟨id, fun b T vs h => .inr ⟨T, vs, h⟩, fun ver val sz xs h => .inr ⟨ver, val, xs, h, .inr ⟨rfl, rfl⟩⟩⟩
theorem Up.append (G N : List GO) : Up G (G ++ N) := by
 intro j
 have : ∀ g, G[j]? = some g → (G ++ N)[j]? = some g := fun g h => by
  rcases Nat.lt_or_ge j G.length with h' | h'
  ·rw [List.getElem?_append_left h']; exact h
  ·rw [List.getElem?_eq_none h'] at h; cases h
 exact ⟨fun h => this _ h, fun b T vs h => .inr ⟨T, vs, this _ h⟩, fun ver val sz xs h => .inr ⟨ver, val, xs, this _ h, .inr ⟨rfl, rfl⟩⟩⟩
section
variable {G G' : List GO} {Z : bn} {w : World}
theorem RS.up (h : Up G G') {s : SV} {x : Value} (k : RS G Z w s x) : RS G' Z w s x := by
 cases s with
 | own j v =>
  rcases k with k | ⟨ver, val, sz, xs, hg, hv, he⟩
  ·exact .inl ((h j).1 k)
  ·rcases (h j).2.2 _ _ _ _ hg with h1 | ⟨ver', val', xs', h1, h2⟩
   ·exact .inl h1
   ·refine .inr ⟨ver', val', sz, xs', h1, ?_⟩
    rcases h2 with h2 | ⟨rfl, rfl⟩
    ·exact ⟨by omega, fun e => by omega⟩
    ·exact ⟨hv, he⟩
 | ptr j o =>
  rcases k with k | ⟨b, T, vs, hg, he⟩
  ·exact .inl ((h j).1 k)
  ·rcases (h j).2.1 _ _ _ hg with h1 | ⟨T', vs', h1⟩
   ·exact .inl h1
   ·exact .inr ⟨b, T', vs', h1, he⟩
 | op j v i o =>
  rcases k with k | ⟨ver, val, sz, xs, hg, hv, he⟩
  ·exact .inl ((h j).1 k)
  ·rcases (h j).2.2 _ _ _ _ hg with h1 | ⟨ver', val', xs', h1, h2⟩
   ·exact .inl h1
   ·refine .inr ⟨ver', val', sz, xs', h1, ?_⟩
    rcases h2 with h2 | ⟨rfl, rfl⟩
    ·exact ⟨by omega, fun e => by omega⟩
    ·exact ⟨hv, he⟩
 | fn f l =>
  obtain ⟨bs, hx, hh⟩ := k
  refine ⟨bs, hx, hh.mono fun j b _ hjb => ?_⟩
  rcases hjb with h1 | ⟨T, vs, h1⟩
  ·exact .inl ((h j).1 h1)
  ·rcases (h j).2.1 _ _ _ h1 with h2 | ⟨T', vs', h2⟩
   ·exact .inl h2
   ·exact .inr ⟨T', vs', h2⟩
 | _ => exact k
theorem RV1.up (h : Up G G') {s : V1} {x : Value} (k : RV1 G Z w s x) : RV1 G' Z w s x := by
 cases s with
 | one s => exact ⟨k.1.up h, k.2⟩
 | agg l => obtain ⟨xs, hx, hh⟩ := k; exact ⟨xs, hx, hh.mono fun _ _ _ k => ⟨k.1.up h, k.2⟩⟩
theorem RV.up (h : Up G G') {s : AV} {x : Value} (k : RV G Z w s x) : RV G' Z w s x := by
 cases s with
 | v s => exact RV1.up h k
 | tup l => obtain ⟨xs, hx, hh⟩ := k; exact ⟨xs, hx, hh.mono fun _ _ _ k => k.up h⟩
theorem RO.up (h : Up G G') {o : aq} {g : GO} (k : RO G Z w o g) : RO G' Z w o g := by
 cases o with
 | cells l => cases g with
  | cells b T vs => exact aw.mono k fun _ _ _ k => ⟨k.1.up h, k.2⟩
  | _ => exact k
 | arr e d ver fz => cases g <;> exact k
 | dead => cases g <;> exact k
end
end Go.Ab
end
section
namespace Go.Ab
open Go Go.Dk
theorem cg {b : Bool} {x y : OR} {r} (h : cond b x y = some r) : (b = true ∧ x = some r) ∨ (b = false ∧ y = some r) := by cases b <;> simp_all
theorem al {b : Bool} {x : OR} {r} (h : cond b x none = some r) : b = true ∧ x = some r := by cases b <;> simp_all
theorem lh {b : Bool} {x : OR} {r} (h : cond b none x = some r) : b = false ∧ x = some r := by cases b <;> simp_all
theorem bind_some {α : Type} {o : Option α} {k : α → OR} {r} (h : o.bind k = some r) : ∃ a, o = some a ∧ k a = some r := by cases o <;> simp_all
theorem re {a b : IntKind} (h : Cc a b = true) : a = b := by simpa [Cc] using h
section
variable {P : Program} {G : List GO} {Z : bn} {w : World}
theorem fX {k : IntKind} {n : Int} {x : Value} (h : RV G Z w (.v (.one (.int k n))) x) : x = .int k n := h.1
theorem cU {b : Bool} {x : Value} (h : RV G Z w (.v (.one (.bool b))) x) : x = .bool b := h.1
theorem kG {b : ByteArray} {x : Value} (h : RV G Z w (.v (.one (.str b))) x) : x = .string b := h.1
theorem cM.rv {v : SV} {x : Value} (h : cM G Z w v x) : RV G Z w (.v (.one v)) x := ⟨h.1, fun _ => h.2⟩
theorem qO (k : Option (TypeId × SK)) (v : Value) : RS G Z w (Eb k v) v := by
 unfold Eb
 split <;> first | rfl | trivial | exact ⟨none, rfl⟩
theorem yU (k : Option (TypeId × SK)) (v : Value) : Eb k v ≠ .any → r5 v = true := by
 unfold Eb
 split <;> intro h <;> first | rfl | exact absurd rfl h
theorem j5 : ∀ (ks : List (Option (TypeId × SK))) (vs : List Value), (∀ v ∈ vs, r5 v = true) → aw (cM G Z w) (z5 ks vs) vs
 | _, [], _ => by cases ‹List (Option (TypeId × SK))› <;> exact aw.nil
 | [], v :: vs, h => aw.cons ⟨qO _ _, h v (by simp)⟩ (j5 [] vs fun u hu => h u (by simp [hu]))
 | k :: ks, v :: vs, h => aw.cons ⟨qO _ _, h v (by simp)⟩ (j5 ks vs fun u hu => h u (by simp [hu]))
theorem fa (x : Value) : RV G Z w aa x := ⟨trivial, fun h => absurd rfl h⟩
theorem vU (v : Value) : RV G Z w (AV.ofValue v) v := by
 unfold AV.ofValue
 split
 ·rename_i cs
  cases hc : cs.toList.all r5 with
  | true => exact ⟨cs.toList, by simp, j5 _ _ (fun v hv => List.all_eq_true.1 hc v hv)⟩
  | false => exact fa _
 ·exact fa _
 ·exact ⟨qO _ _, yU _ _⟩
theorem jU : ∀ (ks : List (Option (TypeId × SK))) (l : List SV) (xs : List Value), aw (cM G Z w) l xs → aw (cM G Z w) (ng.go ks l) xs
 | [], l, xs, h => by unfold ng.go; exact h
 | k :: ks, [], xs, h => by unfold ng.go; exact h
 | k :: ks, x :: l, xs, h => by
  obtain ⟨y, ys, rfl, h1, h2⟩ := h.cons_inv
  have ih := jU ks l ys h2
  cases x with
  | emp e => cases e with
   | none => exact aw.cons h1 ih
   | some e => exact aw.cons h1 ih
  | _ => exact aw.cons h1 ih
theorem pR (t : TypeId) {v : AV} {x : Value} (h : RV G Z w v x) : RV G Z w (ng P t v) x := by
 unfold ng
 split
 ·exact ⟨h.1, fun _ => h.2 nofun⟩
 ·obtain ⟨xs, hx, hh⟩ := h
  exact ⟨xs, hx, jU _ _ _ hh⟩
 ·exact h
variable {ρ : Operand → Value} {x y : Operand} {d : Option Tmp} {ty t t' : TypeId} {pos : String} {aft : Array Edge} {gd : Option (Nat × Bool)} {vx vy : AV} {r : List V1 × List aq}
theorem dM (k : IntKind) (n : Int) : cM G Z w (.int k n) (.int k n) := ⟨rfl, rfl⟩
theorem dp (b : Bool) : cM G Z w (.bool b) (.bool b) := ⟨rfl, rfl⟩
theorem uZ (b : ByteArray) : cM G Z w (.str b) (.string b) := ⟨rfl, rfl⟩
theorem uQ {op : BinOp} {ka : IntKind} {a b : Int} {k : SV → OR} (hx : ρ x = .int ka a) (hy : ρ y = .int ka b) (h : Bc op ka a b k = some r) :
   ∃ v X, k v = some r ∧ (execOp ρ ⟨d, .binOp op t x y t', ty, pos, aft, gd⟩).run P w = .ok (.value X) w ∧ cM G Z w v X := by
 cases op <;> simp only [Bc] at h
 case add => exact ⟨_, _, h, by simp [go_sem, execOp, hx, hy, eqGuard, binOp, Op.intArith], dM _ _⟩
 case sub => exact ⟨_, _, h, by simp [go_sem, execOp, hx, hy, eqGuard, binOp, Op.intArith], dM _ _⟩
 case mul => exact ⟨_, _, h, by simp [go_sem, execOp, hx, hy, eqGuard, binOp, Op.intArith], dM _ _⟩
 case quo =>
  obtain ⟨hb, h⟩ := lh h
  have hb : b ≠ 0 := by simpa using hb
  exact ⟨_, _, h, by simp [go_sem, execOp, hx, hy, eqGuard, binOp, Op.intDiv, hb], dM _ _⟩
 case rem =>
  obtain ⟨hb, h⟩ := lh h
  have hb : b ≠ 0 := by simpa using hb
  exact ⟨_, _, h, by simp [go_sem, execOp, hx, hy, eqGuard, binOp, Op.intDiv, hb], dM _ _⟩
 case xor => exact ⟨_, _, h, by simp [go_sem, execOp, hx, hy, eqGuard, binOp, Op.intBits], dM _ _⟩
 case eql => exact ⟨_, _, h, by simp [go_sem, execOp, hx, hy, eqGuard, binOp, Op.intCmp]; rfl, dp _⟩
 case neq => exact ⟨_, _, h, by simp [go_sem, execOp, hx, hy, eqGuard, binOp, Op.intCmp]; rfl, dp _⟩
 case lss => exact ⟨_, _, h, by simp [go_sem, execOp, hx, hy, eqGuard, binOp, Op.intCmp], dp _⟩
 case leq => exact ⟨_, _, h, by simp [go_sem, execOp, hx, hy, eqGuard, binOp, Op.intCmp], dp _⟩
 case gtr => exact ⟨_, _, h, by simp [go_sem, execOp, hx, hy, eqGuard, binOp, Op.intCmp], dp _⟩
 case geq => exact ⟨_, _, h, by simp [go_sem, execOp, hx, hy, eqGuard, binOp, Op.intCmp], dp _⟩
 all_goals cases h
theorem wz {op : BinOp} {a b : ByteArray} {k : SV → OR} (hx : ρ x = .string a) (hy : ρ y = .string b) (h : Bq op a b k = some r) :
   ∃ v X, k v = some r ∧ (execOp ρ ⟨d, .binOp op t x y t', ty, pos, aft, gd⟩).run P w = .ok (.value X) w ∧ cM G Z w v X := by
 cases op <;> simp only [Bq] at h
 case add =>
  obtain ⟨hb, h⟩ := al h
  exact ⟨_, _, h, (FD (S := fun _ => True) hx hy (by simpa using hb)).out w trivial, uZ _⟩
 case eql => exact ⟨_, _, h, (Gl (S := fun _ => True) hx hy).out w trivial, dp _⟩
 case neq => exact ⟨_, _, h, (GY (S := fun _ => True) hx hy).out w trivial, dp _⟩
 case gtr => exact ⟨_, _, h, by simp [go_sem, execOp, hx, hy, eqGuard, binOp, Op.stringOp], dp _⟩
 all_goals cases h
theorem vK {op : BinOp} {k : SV → OR} (hx : RV G Z w vx (ρ x)) (hy : RV G Z w vy (ρ y)) (h : BZ P op t vx vy k = some r) :
   ∃ v X, k v = some r ∧ (execOp ρ ⟨d, .binOp op t x y t', ty, pos, aft, gd⟩).run P w = .ok (.value X) w ∧ cM G Z w v X := by
 unfold BZ at h
 split at h
 ·obtain ⟨hk, h'⟩ := al h
  obtain rfl := re hk
  exact uQ (fX hx) (fX hy) h'
 ·exact wz (kG hx) (kG hy) h
 ·split at h
  ·rename_i hb
   split at h
   ·exact ⟨_, _, h, (GI (S := fun _ => True) (cU hx) (cU hy) hb).out w trivial, dp _⟩
   ·exact ⟨_, _, h, (GP (S := fun _ => True) (cU hx) (cU hy) hb).out w trivial, dp _⟩
   ·cases h
  ·cases h
 ·cases h
theorem yB {op : UnOp} {k : SV → OR} (hx : RV G Z w vx (ρ x)) (h : Gh op vx k = some r) :
   ∃ v X, k v = some r ∧ (execOp ρ ⟨d, .unOp op t x, ty, pos, aft, gd⟩).run P w = .ok (.value X) w ∧ cM G Z w v X := by
 unfold Gh at h
 split at h
 ·exact ⟨_, _, h, by simp [go_sem, execOp, (cU hx), Op.unary], dp _⟩
 ·exact ⟨_, _, h, by simp [go_sem, execOp, (fX hx), Op.unary, Op.intArith], dM _ _⟩
 ·cases h
theorem bJ {v : AV} {X : Value} {k : Int → OR} (h : fc v k = some r) (hx : RV G Z w v X) : ∃ n, X = .int .i64 n ∧ k n = some r := by
 unfold fc at h
 split at h
 ·exact ⟨_, (fX hx), h⟩
 ·cases h
theorem SlR.val {D : SD} {X : Value} (h : SlR Z w D X) : ∃ a c, X = .slice a D.len c := by obtain ⟨a, c, _, hx, _⟩ := h; exact ⟨a, c, hx⟩
theorem SK.size_pos (k : SK) : 0 < k.size := by cases k <;> decide
theorem fA {e : TypeId} {k : SK} (h : zc P e = some k) : zJ P e = some k ∧ ∃ i z, P.info? e = some i ∧ i.zero = some z ∧ i.size = k.size ∧ z.cells.size = k.size ∧ i.bytes ≤ 64 := by
 unfold zc at h
 cases h0 : zJ P e with
 | none => simp [h0] at h
 | some k' =>
  simp only [h0, Option.bind_some] at h
  cases hs : BY P e k' with
  | false => simp [hs] at h
  | true =>
   simp only [hs, cond_true, Option.some.injEq] at h
   subst h
   refine ⟨rfl, ?_⟩
   unfold BY at hs
   split at hs
   ·rename_i i hi
    split at hs
    ·rename_i z hz
     simp only [Bool.and_eq_true, Nat.beq_eq, Nat.ble_eq] at hs
     exact ⟨i, z, hi, hz, hs.1, hs.2.1, hs.2.2⟩
    ·cases hs
   ·cases hs
theorem fM {t : TypeId} {e : TypeId × SK} (h : cn P t = some e) : P.underlying t = some (.slice e.1) ∧ zc P e.1 = some e.2 := by
 unfold cn at h
 split at h
 ·rename_i e' hu
  cases hk : zc P e' with
  | none => simp [hk] at h
  | some k => simp only [hk, Option.map_some, Option.some.injEq] at h; subst h; exact ⟨hu, hk⟩
 ·cases h
theorem mF {t : TypeId} {e : TypeId × SK} (h : cn P t = some e) : jo P t = some e.2.size := by
 obtain ⟨h1, h2⟩ := fM h
 obtain ⟨_, i, z, hi, _, hs, _⟩ := fA h2
 unfold jo
 simp only [h1, hi, hs]
theorem SK.beq_eq {a c : SK} (h : SK.beq a c = true) : a = c := by cases a <;> cases c <;> first | rfl | cases h
theorem A6 {hs : List HT} {i : Nat} {h : HT} (hi : hs[i]? = some h) : (fo hs)[i * 3]? = some (.int .i64 h.k) ∧ (fo hs)[i * 3 + 1]? = some (.int .i64 h.n) ∧ (fo hs)[i * 3 + 2]? = some h.sl := by
 induction hs generalizing i with
 | nil => simp at hi
 | cons x hs ih =>
  rw [bH]
  cases i with
  | zero => simp at hi; subst hi; exact ⟨rfl, rfl, rfl⟩
  | succ i =>
   have := ih (i := i) (by simpa using hi)
   rw [show (i + 1) * 3 = i * 3 + 1 + 1 + 1 by omega]
   exact this
theorem tA {b : Nat} : ∀ {ts : List HT} {off : Nat}, RdL Z w b off ts → bT w b off (fo ts)
 | [], _, _, i, x, hx => by simp [fH] at hx
 | t :: ts, off, h, i, x, hx => by
  simp only [RdL] at h
  rw [bH] at hx
  match i, hx with
  | 0, hx => simp at hx; subst hx; simpa using h.1.1
  | 1, hx => simp at hx; subst hx; exact h.1.2.1
  | 2, hx => simp at hx; subst hx; exact h.1.2.2
  | i + 3, hx =>
   have := tA h.2.2 i x (by simpa using hx)
   rw [show off + (i + 3) = off + 3 + i by omega]; exact this
theorem xf {b : Nat} : ∀ {ts : List HT} {off : Nat}, RdL Z w b off ts → ∀ t ∈ ts, Rd Z w t
 | [], _, _, t, ht => by cases ht
 | u :: ts, off, h, t, ht => by
  simp only [RdL] at h
  rcases List.mem_cons.1 ht with rfl | ht
  ·exact h.2.1
  ·exact xf h.2.2 t ht
theorem HF {t : HT} (h : Rd Z w t) : SlR Z w (.ts t.er.kids) t.sl := by
 cases t with | mk k n a cap kids =>
 simp only [Rd] at h
 obtain ⟨h1, h2, h3⟩ := h
 have hk : (HT.mk k n a cap kids).er.kids = kids.map HT.er := HT.E4 _
 refine ⟨a, cap, fo kids, ?_, ?_, ?_, ?_, ?_⟩
 ·simp [HT.sl, HT.a, HT.kids, HT.cap, hk, SD.len]
 ·simpa [hk, SD.len] using h2
 ·simpa [hk, SD.len, maxLen] using h3
 ·rcases h1 with rfl | ⟨b, off, ha, hb, hl⟩
  ·exact ⟨[], by simp [hk], rfl, nofun⟩
  ·exact ⟨kids, hk.symm, rfl, xf hl⟩
 ·rcases h1 with rfl | ⟨b, off, ha, hb, hl⟩
  ·exact .inl rfl
  ·exact .inr ⟨b, off, ha, hb, tA hl⟩
theorem HO {l : List T} {X : Value} (h : SlR Z w (.ts l) X) (k n : Int) : ∃ t : HT, t.er = .mk k n l ∧ Rd Z w t ∧ t.sl = X ∧ t.k = k ∧ t.n = n := by
 obtain ⟨a, cap, xs, hx, h1, h2, ⟨hs, rfl, rfl, hr⟩, h4⟩ := h
 refine ⟨.mk k n a cap hs, by rw [HT.HI]; rfl, ?_, ?_, rfl, rfl⟩
 ·simp only [Rd]
  refine ⟨?_, by simpa [SD.len] using h1, by simpa [SD.len, maxLen] using h2⟩
  rcases h4 with h4 | ⟨b, off, ha, hb, hc⟩
  ·left
   cases hs with
   | nil => rfl
   | cons t ts => rw [bH] at h4; cases h4
  ·exact .inr ⟨b, off, ha, hb, lP hs off (fun j u hj => hc j u hj) hr⟩
 ·rw [hx]; simp [HT.sl, HT.a, HT.kids, HT.cap, SD.len]
theorem aE.length {D : SD} {xs : List Value} (h : aE Z w D xs) : xs.length = D.len * D.kind.size := by
 cases D with
 | ts l => obtain ⟨hs, rfl, rfl, _⟩ := h; rw [sF]; simp [SD.len, SD.kind, SK.size]
 | is l => simp only [aE] at h; subst h; simp [SD.len, SD.kind, SK.size]
 | iss l => have := aw.mono h (fun _ _ _ h => h) |>.1; simp [SD.len, SD.kind, SK.size, this]
 | ss l => simp only [aE] at h; subst h; simp [SD.len, SD.kind, SK.size]
 | bs l => simp only [aE] at h; subst h; simp [SD.len, SD.kind, SK.size]
theorem aC {α : Type} {l : List α} {i : Nat} {a : α} (h : l[i]? = some a) : i < l.length := by
 rcases Nat.lt_or_ge i l.length with h' | h'
 ·exact h'
 ·rw [List.getElem?_eq_none h'] at h; cases h
theorem aE.get {D : SD} {xs : List Value} (h : aE Z w D xs) {i : Nat} {k : SE → OR} (hg : D.get i k = some r) :
   ∃ e cs, k e = some r ∧ i < D.len ∧ bZ Z w e cs ∧ ∀ (j : Nat) v, cs[j]? = some v → xs[i * D.kind.size + j]? = some v := by
 cases D with
 | ts l =>
  obtain ⟨hs, rfl, rfl, hr⟩ := h
  obtain ⟨x, hx, hk⟩ := bind_some hg
  rw [List.getElem?_map] at hx
  obtain ⟨t, ht, rfl⟩ := Option.map_eq_some_iff.1 hx
  have := A6 ht
  refine ⟨_, _, hk, by simpa [SD.len] using aC ht, ⟨t, rfl, hr t (List.mem_of_getElem? ht), rfl⟩, fun j v hv => ?_⟩
  match j, hv with
  | 0, hv => simp at hv; subst hv; exact this.1
  | 1, hv => simp at hv; subst hv; exact this.2.1
  | 2, hv => simp at hv; subst hv; exact this.2.2
  | j + 3, hv => simp at hv
 | is l =>
  simp only [aE] at h; subst h
  obtain ⟨x, hx, hk⟩ := bind_some hg
  refine ⟨_, _, hk, aC hx, rfl, fun j v hv => ?_⟩
  match j, hv with
  | 0, hv => simp at hv; subst hv; simp [SD.kind, SK.size, hx]
  | j + 1, hv => simp at hv
 | iss l =>
  obtain ⟨x, hx, hk⟩ := bind_some hg
  obtain ⟨X, hX, hr⟩ := aw.get h hx
  refine ⟨_, _, hk, aC hx, ⟨X, rfl, hr⟩, fun j v hv => ?_⟩
  match j, hv with
  | 0, hv => simp at hv; subst hv; simpa [SD.kind, SK.size] using hX
  | j + 1, hv => simp at hv
 | ss l =>
  simp only [aE] at h; subst h
  obtain ⟨x, hx, hk⟩ := bind_some hg
  refine ⟨_, _, hk, aC hx, rfl, fun j v hv => ?_⟩
  match j, hv with
  | 0, hv => simp at hv; subst hv; simp [SD.kind, SK.size, hx]
  | j + 1, hv => simp at hv
 | bs l =>
  simp only [aE] at h; subst h
  obtain ⟨x, hx, hk⟩ := bind_some hg
  refine ⟨_, _, hk, aC hx, rfl, fun j v hv => ?_⟩
  match j, hv with
  | 0, hv => simp at hv; subst hv; simp [SD.kind, SK.size, hx]
  | j + 1, hv => simp at hv
theorem bZ.cells {e : SE} {cs : List Value} (h : bZ Z w e cs) : aw (cM G Z w) e.cells cs := by
 cases e with
 | t x =>
  obtain ⟨t, rfl, hr, rfl⟩ := h
  refine aw.cons ⟨?_, rfl⟩ (aw.cons ⟨?_, rfl⟩ (aw.cons ⟨HF hr, rfl⟩ aw.nil))
  ·show _ = _; rw [HT.H4]
  ·show _ = _; rw [HT.H3]
 | i n => simp only [bZ] at h; subst h; exact aw.cons ⟨rfl, rfl⟩ aw.nil
 | ii l =>
  obtain ⟨x, rfl, a, cap, rfl, h1, h2, h3⟩ := h
  refine aw.cons ⟨⟨a, cap, l.map (.int .i64 ·), rfl, h1, h2, rfl, ?_⟩, rfl⟩ aw.nil
  rcases h3 with rfl | h3
  ·exact .inl rfl
  ·exact .inr h3
 | s x => simp only [bZ] at h; subst h; exact aw.cons ⟨rfl, rfl⟩ aw.nil
 | b c => simp only [bZ] at h; subst h; exact aw.cons ⟨rfl, rfl⟩ aw.nil
theorem u0 {n : Nat} (h : kZ P t = some n) : ∃ fs i, P.underlying t = some (.struct fs) ∧ P.info? t = some i ∧ i.size = n := by
 unfold kZ at h
 split at h
 ·rename_i fs i hu hi
  exact ⟨fs, i, hu, hi, Option.some.inj h⟩
 ·cases h
theorem uk {a : Addr} {X : Value} (ht : rW P t = true) (hc : w.cell? a = some X) : (loadVar t a).run P w = .ok X w := by
 unfold rW at ht
 cases hu : P.underlying t with
 | none => simp [hu] at ht
 | some de =>
  have hag : (isAgg t).run P w = .ok false w := by
   simp only [isAgg, Sem.run_bind, run_underlying hu, Result.andThen_ok]
   cases de <;> simp_all
  simp [loadVar, Sem.run_bind, hag, load, Sem.run, hc]
theorem sU {b o n : Nat} {xs : List Value} (ht : kZ P t = some n) (hc : bT w b o xs) (hn : xs.length = n) : (loadVar t ⟨b, o, none⟩).run P w = .ok (.agg xs.toArray) w := by
 obtain ⟨fs, i, hu, hi, hs⟩ := u0 ht
 have hag : (isAgg t).run P w = .ok true w := by
  simp only [isAgg, Sem.run_bind, run_underlying hu, Result.andThen_ok]; rfl
 have hl := run_loadCells_list (P := P) (w := w) ⟨b, o, none⟩ xs (fun j v hj => by rw [iO]; exact hc j v hj)
 rw [hn, ← hs] at hl
 simp only [loadVar, Sem.run_bind, hag, Result.andThen_ok, if_true, Go.Dk.run_sizeOf hi, hl, Sem.run_pure]
theorem bT.drop {b o : Nat} {xs : List Value} (h : bT w b o xs) (n : Nat) : bT w b (o + n) (xs.drop n) := fun i x hx => by
 rw [List.getElem?_drop] at hx
 rw [Nat.add_assoc]; exact h (n + i) x hx
theorem bT.take {b o : Nat} {xs : List Value} (h : bT w b o xs) (n : Nat) : bT w b o (xs.take n) := fun i x hx => by
 rw [List.getElem?_take] at hx
 split at hx
 ·exact h i x hx
 ·cases hx
theorem jC {l : List SV} {xs : List Value} {b o : Nat} {k : AV → OR} (hl : aw (cM G Z w) l xs) (hc : bT w b o xs) (h : vj P t l k = some r) :
   ∃ v X, k v = some r ∧ (loadVar t ⟨b, o, none⟩).run P w = .ok X w ∧ RV G Z w v X := by
 unfold vj at h
 split at h
 ·rename_i ht
  split at h
  ·rename_i c l'
   obtain ⟨X, xs', rfl, h1, _⟩ := hl.cons_inv
   exact ⟨_, X, h, uk ht (hc 0 X rfl), h1.1, fun _ => h1.2⟩
  ·cases h
 ·split at h
  ·rename_i n hs
   obtain ⟨hn, h⟩ := al h
   simp only [Nat.ble_eq] at hn
   exact ⟨_, .agg (xs.take n).toArray, h, sU hs (hc.take n) (by rw [List.length_take, ← hl.1]; omega), ⟨_, rfl, hl.take n⟩⟩
  ·cases h
theorem St.Da {w0 : World} {M Z0 : bn} {L : List Res} {φ : Fact} {b : Nat} {T : TypeId} {vs : List Value} (hw : St w0 M Z0 L φ w) (hr : blk b vs T ∈ L) : bT w b 0 vs := by
 intro i x hx
 have := hw.own _ hr
 simp only [blk] at this
 simp [World.cell?, this, hx]
theorem qc {e sz n : Nat} {X : Value} {xs : List Value} {b off m c : Nat} (h : (yw e sz X n xs).own w) (hX : X = .slice (some ⟨b, off, none⟩) m c) : off = 0 ∧ m = n ∧ bT w b 0 xs := by
 simp only [yw] at h
 obtain ⟨_, h⟩ := h
 rcases h with ⟨h, _⟩ | ⟨g, cap, cur, h, _, hg, _, _, _, ht⟩
 ·rw [hX] at h; cases h
 ·rw [hX] at h
  injection h with h1 h2 h3
  injection h1 with h1
  injection h1 with h4 h5
  subst h4 h5 h2
  refine ⟨rfl, rfl, fun i x hx => ?_⟩
  have : cur.toList[i]? = some x := by
   rw [← ht] at hx
   rw [List.getElem?_take] at hx
   split at hx
   ·exact hx
   ·cases hx
  simp only [World.cell?, hg, Nat.zero_add]
  simpa using this
theorem ky : ∀ {h : List aq} {G : List GO} {j : Nat} {o : aq} {g : GO} {q : Res}, h[j]? = some o → G[j]? = some g → q ∈ ji o g → q ∈ aU h G
 | [], _, j, o, g, q, hj, _, _ => by simp at hj
 | _ :: _, [], j, o, g, q, _, gj, _ => by simp at gj
 | x :: h, y :: G, 0, o, g, q, hj, gj, hq => by
  simp at hj gj; subst hj gj; simp [aU, hq]
 | x :: h, y :: G, j + 1, o, g, q, hj, gj, hq => by
  simp only [aU, List.mem_append]
  exact .inr (ky (by simpa using hj) (by simpa using gj) hq)
end
section
variable {P : Program} {w0 w : World} {M Z0 : bn} {b : Nat} {G : List GO} {s : AS} {tv : List Value}
abbrev zn (w0 : World) (Z0 : bn) (s : AS) (G : List GO) : bn := jc w0 Z0 (aU s.heap G)
theorem bq.cells (hI : bq w0 M Z0 b G s tv w) {j : Nat} {l : List SV} (hj : s.heap[j]? = some (.cells l)) :
   ∃ bb T vs, G[j]? = some (.cells bb T vs) ∧ aw (cM G (zn w0 Z0 s G) w) l vs ∧ bT w bb 0 vs ∧ blk bb vs T ∈ aU s.heap G := by
 obtain ⟨g, hg, hr⟩ := hI.st.per.2.get hj
 cases g with
 | cells bb T vs =>
  have hm : blk bb vs T ∈ aU s.heap G := ky hj hg (by simp [ji])
  exact ⟨bb, T, vs, hg, hr, St.Da hI.st hm, hm⟩
 | _ => exact hr.elim
theorem bq.arr (hI : bq w0 M Z0 b G s tv w) {j v : Nat} {e : TypeId} {D : SD} {ver : Nat} {fz : Bool} (hj : s.heap[j]? = some (.arr e D ver fz)) :
   ∃ val xs, G[j]? = some (.arr ver val D.kind.size xs) ∧ cond fz (SlR (zn w0 Z0 s G) w D val) (aE (zn w0 Z0 s G) w D xs ∧ ∃ a c, val = .slice a D.len c) := by
 obtain ⟨g, hg, hr⟩ := hI.st.per.2.get hj
 cases g with
 | arr ver' val sz xs => obtain ⟨rfl, rfl, h3⟩ := hr; exact ⟨val, xs, hg, h3⟩
 | _ => exact hr.elim
theorem ix {j v : Nat} {X val : Value} {ver sz : Nat} {xs : List Value} {Z : bn} (hx : RS G Z w (.own j v) X) (hg : G[j]? = some (.arr ver val sz xs)) (hv : v = ver) : X = val := by
 rcases hx with hx | ⟨ver', val', sz', xs', hx, _, he⟩
 ·rw [hg] at hx; cases hx
 ·rw [hg] at hx
  injection hx with hx
  injection hx with h1 h2 h3 h4
  subst h1 h2
  exact he hv
theorem jN {j o : Nat} {X : Value} {bb : Nat} {T : TypeId} {vs : List Value} {Z : bn} (hx : RS G Z w (.ptr j o) X) (hg : G[j]? = some (.cells bb T vs)) : X = pv bb o := by
 rcases hx with hx | ⟨b', T', vs', hx, he⟩
 ·rw [hg] at hx; cases hx
 ·rw [hg] at hx
  injection hx with hx
  injection hx with h1 h2 h3
  subst h1; exact he
def RdS (Z : bn) (w : World) (D : SD) (X : Value) : Prop := ∃ a c ys, X = .slice a D.len c ∧ D.len ≤ maxLen ∧ aE Z w D ys ∧ (ys = [] ∨ ∃ b off, a = some ⟨b, off, none⟩ ∧ bT w b off ys)
theorem SlR.rd {Z : bn} {D : SD} {X : Value} (h : SlR Z w D X) : RdS Z w D X := by
 obtain ⟨a, c, ys, hx, h1, h2, h3, h4⟩ := h
 exact ⟨a, c, ys, hx, h2, h3, h4.imp id fun ⟨b, off, ha, _, hc⟩ => ⟨b, off, ha, hc⟩⟩
theorem RdS.ne {Z : bn} {D : SD} {X : Value} (h : RdS Z w D X) (hl : 0 < D.len) : ∃ b off c ys, X = .slice (some ⟨b, off, none⟩) D.len c ∧ aE Z w D ys ∧ bT w b off ys := by
 obtain ⟨a, c, ys, hx, h2, h3, h4⟩ := h
 rcases h4 with rfl | ⟨b, off, rfl, hc⟩
 ·have := h3.length
  have hp := SK.size_pos D.kind
  have : 0 < D.len * D.kind.size := Nat.mul_pos hl hp
  simp at *; omega
 ·exact ⟨b, off, c, ys, hx, h3, hc⟩
theorem bq.pw (hI : bq w0 M Z0 b G s tv w) {j : Nat} {e : TypeId} {D : SD} {ver : Nat} {fz : Bool} (hj : s.heap[j]? = some (.arr e D ver fz)) :
   ∃ val xs, G[j]? = some (.arr ver val D.kind.size xs) ∧ RdS (zn w0 Z0 s G) w D val := by
 obtain ⟨val, xs, hg, hh⟩ := hI.arr (v := 0) hj
 cases fz with
 | true => exact ⟨val, xs, hg, SlR.rd hh⟩
 | false =>
  obtain ⟨h1, a, c, hx⟩ := hh
  have hm : iW e D.kind.size val D.len xs ∈ aU s.heap G := ky hj hg (by simp [ji])
  have ho := hI.st.own _ hm
  refine ⟨val, xs, hg, ?_⟩
  subst hx
  unfold iW at ho
  split at ho
  ·rename_i a' _ he
   obtain ⟨h0, rfl, _⟩ := ho
   exact ⟨a, c, [], rfl, by rw [h0]; exact Nat.zero_le _, h1, .inl rfl⟩
  ·rename_i v hne
   have ho' := ho
   simp only [yw] at ho
   rcases ho.2 with ⟨h2, _⟩ | ⟨g, cap, cur, h2, _, _, hn, hm, _, _⟩
   ·injection h2 with _ _ h3; subst h3; exact absurd rfl (hne a D.len)
   ·injection h2 with h3 h4 h5
    subst h3 h5
    exact ⟨_, _, xs, rfl, Nat.le_trans hn hm, h1, .inr ⟨g, 0, rfl, (qc ho' rfl).2.2⟩⟩
theorem nN (hI : bq w0 M Z0 b G s tv w) {t : TypeId} {VX : Value} {vx : AV} {k : AV → OR} {r : List V1 × List aq}
   (hx : RV G (zn w0 Z0 s G) w vx VX) (h : mS P t vx s.heap k = some r) :
   ∃ v X bb o, k v = some r ∧ VX = pv bb o ∧ (loadVar t ⟨bb, o, none⟩).run P w = .ok X w ∧ RV G (zn w0 Z0 s G) w v X := by
 unfold mS at h
 split at h
 ·rename_i j off
  split at h
  ·rename_i l hj
   obtain ⟨bb, T, vs, hg, ha, hc, _⟩ := hI.cells hj
   obtain ⟨v, X, h1, h2, h3⟩ := jC (ha.drop off) (hc.drop off) h
   exact ⟨v, X, _, _, h1, by rw [Nat.zero_add]; exact jN hx.1 hg, h2, h3⟩
  ·cases h
 ·rename_i e off
  obtain ⟨bb, o, cs, hp, hb, hc, hr⟩ := hx.1
  obtain ⟨v, X, h1, h2, h3⟩ := jC (hr.cells.drop off) (hc.drop off) h
  exact ⟨v, X, _, _, h1, hp, h2, h3⟩
 ·rename_i j v i off
  split at h
  ·rename_i D ver fz hj
   obtain ⟨hv, h⟩ := al h
   simp only [Nat.beq_eq] at hv
   obtain ⟨val, xs, hg, a, c, ys, hval, _, he, hc⟩ := hI.pw hj
   obtain ⟨el, cs, h, hlt, hr, hsub⟩ := he.get h
   rcases hx.1 with hx | ⟨ver', val', sz', xs', hx, _, hh⟩
   ·rw [hg] at hx; cases hx
   ·rw [hg] at hx
    injection hx with hx
    injection hx with e1 e2 e3 e4
    subst e1 e2 e3
    obtain ⟨bb, o, n, c', hs, hi, hp⟩ := hh hv
    have hcs : bT w bb (o + i * D.kind.size) cs := by
     rcases hc with rfl | ⟨b1, o1, ha, hc⟩
     ·intro q u hq; have := hsub q u hq; simp at this
     ·rw [hval, ha] at hs
      injection hs with hs _ _
      injection hs with hs
      injection hs with e1 e2
      subst e1 e2
      intro q u hq; rw [Nat.add_assoc]; exact hc _ u (hsub q u hq)
    obtain ⟨v, X, h1, h2, h3⟩ := jC (hr.cells.drop off) (hcs.drop off) h
    exact ⟨v, X, _, _, h1, hp, h2, h3⟩
  ·cases h
 ·cases h
theorem s9 (hI : bq w0 M Z0 b G s tv w) {ρ : Operand → Value} {x : Operand} {d : Option Tmp} {ty t : TypeId} {pos : String} {aft : Array Edge} {gd : Option (Nat × Bool)} {vx : AV} {k : AV → OR} {r : List V1 × List aq}
   (hx : RV G (zn w0 Z0 s G) w vx (ρ x)) (h : mS P t vx s.heap k = some r) :
   ∃ v X, k v = some r ∧ (execOp ρ ⟨d, .load t x, ty, pos, aft, gd⟩).run P w = .ok (.value X) w ∧ RV G (zn w0 Z0 s G) w v X := by
 obtain ⟨v, X, bb, o, h1, hp, hr, hv⟩ := nN hI hx h
 refine ⟨v, X, h1, ?_, hv⟩
 simp [execOp, Instr.loadAt, hp, pv, Instr.sureAddr, Sem.run_bind, hr]
theorem SK.iG (k : SK) : k.nil.len = 0 := by cases k <;> rfl
theorem SK.xK (k : SK) : k.nil.kind = k := by cases k <;> rfl
theorem iM {Z : bn} (k : SK) : aE Z w k.nil [] := by cases k <;> first | exact ⟨[], rfl, rfl, nofun⟩ | rfl | exact aw.nil
theorem EF {Z : bn} (k : SK) (a : Option Addr) : RdS Z w k.nil (.slice a 0 0) := ⟨a, 0, [], by rw [k.iG], by rw [k.iG]; exact Nat.zero_le _, iM k, .inl rfl⟩
theorem vV {Z : bn} (k : SK) (a : Option Addr) : SlR Z w k.nil (.slice a 0 0) := ⟨a, 0, [], by rw [k.iG], by rw [k.iG]; exact Nat.le_refl _, by rw [k.iG]; exact Nat.zero_le _, iM k, .inl rfl⟩
variable {ρ : Operand → Value} {x y : Operand} {d : Option Tmp} {ty t t' : TypeId} {pos : String} {aft : Array Edge} {gd : Option (Nat × Bool)} {vx vy : AV} {r : List V1 × List aq} {X : Value}
theorem jB (hI : bq w0 M Z0 b G s tv w) {v : SV} {k : SD → OR} (hx : RS G (zn w0 Z0 s G) w v X) (h : vr s.heap v k = some r) : ∃ D, k D = some r ∧ RdS (zn w0 Z0 s G) w D X := by
 unfold vr at h
 split at h
 ·exact ⟨_, h, SlR.rd hx⟩
 ·obtain ⟨a, rfl⟩ := hx
  exact ⟨_, h, EF _ _⟩
 ·split at h
  ·rename_i hj
   obtain ⟨hv, h'⟩ := al h
   simp only [Nat.beq_eq] at hv
   obtain ⟨val, xs, hg, hr⟩ := hI.pw hj
   rw [ix hx hg hv]
   exact ⟨_, h', hr⟩
  ·cases h
 ·cases h
theorem vF (hI : bq w0 M Z0 b G s tv w) {k : SV → OR} (hx : RV G (zn w0 Z0 s G) w vx (ρ x)) (h : A3 P t vx s.heap k = some r) :
   ∃ v X, k v = some r ∧ (execOp ρ ⟨d, .call ⟨.builtin .len, #[x], #[t]⟩, ty, pos, aft, gd⟩).run P w = .ok (.value X) w ∧ cM G (zn w0 Z0 s G) w v X := by
 unfold A3 at h
 split at h
 ·split at h
  ·rename_i hu
   exact ⟨_, _, h, (CQ (S := fun _ => True) (by simp [ly, hu]) (kG hx)).out w trivial, dM _ _⟩
  ·cases h
 ·split at h
  ·rename_i hk
   obtain ⟨a, hX⟩ := hx.1
   exact ⟨_, _, h, (pH (S := fun _ => True) (mF hk) hX).out w trivial, dM _ _⟩
  ·cases h
 ·split at h
  ·rename_i hk
   obtain ⟨D, h', a, c, ys, hX, _⟩ := jB hI hx.1 h
   exact ⟨_, _, h', (pH (S := fun _ => True) (mF hk) hX).out w trivial, dM _ _⟩
  ·cases h
 ·cases h
theorem SlR.get {Z : bn} {D : SD} {i : Nat} {k : SE → OR} (h : SlR Z w D X) (hg : D.get i k = some r) :
   ∃ e bb off c, k e = some r ∧ X = .slice (some ⟨bb, off, none⟩) D.len c ∧ i < D.len ∧ EpR Z w e 0 (pv bb (off + i * D.kind.size)) := by
 obtain ⟨a, c, ys, hx, h1, h2, h3, h4⟩ := h
 obtain ⟨e, cs, hk, hlt, hr, hsub⟩ := h3.get hg
 rcases h4 with rfl | ⟨bb, off, rfl, hb, hc⟩
 ·cases cs with
  | nil => exact absurd rfl hr.ne
  | cons u cs => have := hsub 0 u rfl; simp at this
 ·exact ⟨e, bb, off, c, hk, hx, hlt, bb, off + i * D.kind.size, cs, rfl, hb, fun q u hq => by rw [Nat.add_assoc]; exact hc _ u (hsub q u hq), hr⟩
theorem kQ (hI : bq w0 M Z0 b G s tv w) {k : SV → OR} (hx : RV G (zn w0 Z0 s G) w vx (ρ x)) (hy : RV G (zn w0 Z0 s G) w vy (ρ y)) (h : fK P t vx vy s.heap k = some r) :
   ∃ v X, k v = some r ∧ (execOp ρ ⟨d, .indexAddr t x y, ty, pos, aft, gd⟩).run P w = .ok (.value X) w ∧ cM G (zn w0 Z0 s G) w v X := by
 unfold fK at h
 split at h
 ·cases h
 ·rename_i e hk
  obtain ⟨i, hY, h⟩ := bJ h hy
  obtain ⟨hi, h⟩ := al h
  have hi : 0 ≤ i := by simpa using hi
  split at h
  ·rename_i D
   obtain ⟨he, h⟩ := al h
   have he := SK.beq_eq he
   obtain ⟨el, bb, off, c, h, hX, hlt, hp⟩ := SlR.get hx.1 h
   refine ⟨_, _, h, (mR (S := fun _ => True) (mF hk) hX hY ⟨hi, by omega⟩).out w trivial, ?_, rfl⟩
   rw [he]; exact hp
  ·split at h
   ·rename_i j v D ver _ hj
    obtain ⟨hv, h⟩ := al h
    simp only [Bool.and_eq_true, Nat.beq_eq] at hv
    have he := SK.beq_eq hv.2
    obtain ⟨hlt, h⟩ := al h
    have hlt : i < D.len := by simpa using hlt
    obtain ⟨val, xs, hg, hr⟩ := hI.pw hj
    obtain ⟨bb, off, c, ys, hX, _⟩ := hr.ne (by omega)
    have hX' := ix hx.1 hg hv.1
    refine ⟨_, _, h, (mR (S := fun _ => True) (mF hk) (hX'.trans hX) hY ⟨hi, hlt⟩).out w trivial, .inr ⟨ver, val, D.kind.size, xs, hg, by omega, fun _ => ⟨bb, off, D.len, c, hX, by omega, ?_⟩⟩, rfl⟩
    rw [he]; rfl
   ·cases h
  ·cases h
theorem EU {e : TypeId} (h : zJ P e = some .b) : P.underlying e = some (.int .u8) := by
 unfold zJ at h
 split at h
 ·split at h <;> cases h
 ·cases h
 ·rename_i hu; exact hu
 ·cases h
 ·split at h <;> cases h
 ·cases h
theorem Et {l : List UInt8} {ys : List Value} {Z : bn} (h : aE Z w (.bs l) ys) : ys = l.map fun c => .int .u8 (c.toNat : Int) := h
theorem s7 (hI : bq w0 M Z0 b G s tv w) {k : SV → OR} (hx : RV G (zn w0 Z0 s G) w vx (ρ x)) (h : sd P t t' vx s.heap k = some r) :
   ∃ v X, k v = some r ∧ (execOp ρ ⟨d, .convert t t' x, ty, pos, aft, gd⟩).run P w = .ok (.value X) w ∧ cM G (zn w0 Z0 s G) w v X := by
 unfold sd at h
 split at h
 ·split at h
  ·rename_i h1 h2
   exact ⟨_, _, h, by simp [go_sem, execOp, convert, (fX hx), Sem.run_bind, run_underlying h1, run_underlying h2, Conv.intToInt], dM _ _⟩
  ·cases h
 ·split at h
  ·rename_i h1 h2
   obtain ⟨D, h', a, c, ys, hX, hmx, he, hc⟩ := jB hI hx.1 h
   split at h'
   ·rename_i l
    obtain ⟨h3, h4⟩ := fM h1
    have h5 := EU (fA h4).1
    have he := Et he
    refine ⟨_, _, h', ?_, uZ _⟩
    have key : (Conv.bytesToString (ρ x)).run P w = .ok (.string ⟨l.toArray⟩) w := by
     rw [hX]
     have hfold : ∀ (l : List UInt8) (s : ByteArray), ((l.map fun c => (c.toNat : Int)).foldl (fun r n => r.push (UInt8.ofNat n.toNat)) s) = ⟨s.data ++ l.toArray⟩ := by
      intro l
      induction l with
      | nil => intro s; simp
      | cons c l ih => intro s; simp only [List.map_cons, List.foldl_cons, ih]; simp [ByteArray.push]
     cases a with
     | none =>
      rcases hc with rfl | ⟨_, _, ha, _⟩
      ·cases l with
       | nil => rfl
       | cons c l => simp at he
      ·cases ha
     | some a =>
      have hl : (loadCells a (SD.bs l).len).run P w = .ok ((l.map fun c => (c.toNat : Int)).map (Value.int .u8)).toArray w := by
       have : ((l.map fun c => (c.toNat : Int)).map (Value.int .u8)) = ys := by rw [he]; simp
       rw [this]
       have hlen : (SD.bs l).len = ys.length := by rw [he]; simp [SD.len]
       rw [hlen]
       refine run_loadCells_list w a ys fun j v hj => ?_
       rcases hc with rfl | ⟨b1, o1, ha, hc⟩
       ·simp at hj
       ·injection ha with ha; subst ha; rw [iO]; exact hc j v hj
      rw [run_bytesToString w a _ c _ hl, hfold]
      simp
    rw [hX] at key
    simp only [execOp, hX, Sem.run_bind, run_convert_bytes_string w t t' _ a _ c h3 h5 h2, key, Result.andThen_ok, Sem.run_pure]
   ·cases h'
  ·cases h
 ·cases h
theorem bq.oO (hI : bq w0 M Z0 b G s tv w) {j : Nat} (h : oO s.heap j = true) : ∃ bb T vs, G[j]? = some (.cells bb T vs) := by
 unfold Go.Ab.oO at h
 split at h
 ·rename_i hj; obtain ⟨bb, T, vs, hg, _⟩ := hI.cells hj; exact ⟨bb, T, vs, hg⟩
 ·cases h
theorem bq.wi (hI : bq w0 M Z0 b G s tv w) {j v : Nat} (h : wi s.heap j v = true) : ∃ val sz xs, G[j]? = some (.arr v val sz xs) := by
 unfold Go.Ab.wi at h
 split at h
 ·rename_i hj; obtain ⟨val, xs, hg, _⟩ := hI.pw hj; simp only [Nat.beq_eq] at h; subst h; exact ⟨val, _, xs, hg⟩
 ·cases h
theorem AK {Z : bn} {j v i o : Nat} {val : Value} {sz : Nat} {xs : List Value} (hx : RS G Z w (.op j v i o) X) (hg : G[j]? = some (.arr v val sz xs)) :
   ∃ bb off n c, val = .slice (some ⟨bb, off, none⟩) n c ∧ i < n ∧ X = pv bb (off + i * sz + o) := by
 rcases hx with hx | ⟨ver', val', sz', xs', hx, _, he⟩
 ·rw [hg] at hx; cases hx
 ·rw [hg] at hx
  injection hx with hx
  injection hx with h1 h2 h3 h4
  subst h1 h2 h3
  exact he rfl
theorem qT (hI : bq w0 M Z0 b G s tv w) {i D : Nat} {k : SV → OR} (hx : RV G (zn w0 Z0 s G) w vx (ρ x)) (hf : jW P t i = some D) (h : nj s.heap D vx k = some r) :
   ∃ v X, k v = some r ∧ (execOp ρ ⟨d, .fieldAddr t x i, ty, pos, aft, gd⟩).run P w = .ok (.value X) w ∧ cM G (zn w0 Z0 s G) w v X := by
 unfold nj at h
 split at h
 ·obtain ⟨hl, h⟩ := al h
  obtain ⟨bb, T, vs, hg⟩ := hI.oO hl
  exact ⟨_, _, h, (jt (S := fun _ => True) hf (jN hx.1 hg)).out w trivial, .inr ⟨bb, T, vs, hg, rfl⟩, rfl⟩
 ·obtain ⟨bb, off, cs, hX, hb, hc, hr⟩ := hx.1
  exact ⟨_, _, h, (jt (S := fun _ => True) hf hX).out w trivial, ⟨bb, off, cs, by rw [Nat.add_assoc], hb, hc, hr⟩, rfl⟩
 ·obtain ⟨hl, h⟩ := al h
  obtain ⟨val, sz, xs, hg⟩ := hI.wi hl
  obtain ⟨bb, off, n, c, hv, hi, hX⟩ := AK hx.1 hg
  exact ⟨_, _, h, (jt (S := fun _ => True) hf hX).out w trivial, .inr ⟨_, val, sz, xs, hg, Nat.le_refl _, fun _ => ⟨bb, off, n, c, hv, hi, by rw [Nat.add_assoc]; rfl⟩⟩, rfl⟩
 ·cases h
theorem iC {bb o : Nat} (h : ρ x = pv bb o) : (execOp ρ ⟨d, .nilCheck x, ty, pos, aft, gd⟩).run P w = .ok (.value (pv bb o)) w := (yz (S := fun _ => True) h).out w trivial
theorem vi (hI : bq w0 M Z0 b G s tv w) {k : SV → OR} (hx : RV G (zn w0 Z0 s G) w vx (ρ x)) (h : BQ s.heap vx k = some r) :
   ∃ v X, k v = some r ∧ (execOp ρ ⟨d, .nilCheck x, ty, pos, aft, gd⟩).run P w = .ok (.value X) w ∧ cM G (zn w0 Z0 s G) w v X := by
 unfold BQ at h
 split at h
 ·obtain ⟨hl, h⟩ := al h
  obtain ⟨bb, T, vs, hg⟩ := hI.oO hl
  exact ⟨_, _, h, iC (jN hx.1 hg), .inr ⟨bb, T, vs, hg, rfl⟩, rfl⟩
 ·obtain ⟨bb, off, cs, hX, hb, hc, hr⟩ := hx.1
  exact ⟨_, _, h, iC hX, ⟨bb, off, cs, rfl, hb, hc, hr⟩, rfl⟩
 ·obtain ⟨hl, h⟩ := al h
  obtain ⟨val, sz, xs, hg⟩ := hI.wi hl
  obtain ⟨bb, off, n, c, hv, hi, hX⟩ := AK hx.1 hg
  exact ⟨_, _, h, iC hX, .inr ⟨_, val, sz, xs, hg, Nat.le_refl _, fun _ => ⟨bb, off, n, c, hv, hi, rfl⟩⟩, rfl⟩
 ·obtain ⟨bs, hX, hh⟩ := hx.1
  exact ⟨_, _, h, (vG (S := fun _ => True) hX).out w trivial, ⟨bs, rfl, hh⟩, rfl⟩
 ·cases h
theorem ry {Z : bn} {k : SV → OR} (hx : RV G Z w vx (ρ x)) (hy : RV G Z w vy (ρ y)) (h : mY P t vx vy k = some r) :
   ∃ v X, k v = some r ∧ (execOp ρ ⟨d, .index t x y, ty, pos, aft, gd⟩).run P w = .ok (.value X) w ∧ cM G Z w v X := by
 unfold mY at h
 split at h
 ·obtain ⟨n, hY, h⟩ := bJ h hy
  obtain ⟨hn, h⟩ := al h
  simp only [Bool.and_eq_true, decide_eq_true_eq] at hn
  split at h
  ·rename_i hu
   exact ⟨_, _, h, (yM (S := fun _ => True) (by simp [ly, hu]) (kG hx) hY ⟨hn.1, by omega⟩).out w trivial, dM _ _⟩
  ·cases h
 ·cases h
theorem nF {Z : bn} {i : Nat} {k : AV → OR} (hx : RV G Z w vx (ρ x)) (h : iw vx i k = some r) :
   ∃ v X, k v = some r ∧ (execOp ρ ⟨d, .extract x i, ty, pos, aft, gd⟩).run P w = .ok (.value X) w ∧ RV G Z w v X := by
 unfold iw at h
 split at h
 ·obtain ⟨v, hv, h⟩ := bind_some h
  obtain ⟨xs, hX, hh⟩ := hx
  obtain ⟨X, hX', hr⟩ := hh.get hv
  exact ⟨_, X, h, (AI (S := fun _ => True) hX (by simpa using hX')).out w trivial, hr⟩
 ·cases h
theorem n4 {Z : bn} {mx : Bool} {tys : Array TypeId} {k : SV → OR} (hx : RV G Z w vx (ρ x)) (hy : RV G Z w vy (ρ y)) (h : yD mx vx vy k = some r) :
   ∃ v X, k v = some r ∧ (execOp ρ ⟨d, .call ⟨.builtin (cond mx .max .min), #[x, y], tys⟩, ty, pos, aft, gd⟩).run P w = .ok (.value X) w ∧ cM G Z w v X := by
 unfold yD at h
 split at h
 ·obtain ⟨hk, h'⟩ := al h
  obtain rfl := re hk
  refine ⟨_, _, h', ?_, dM _ _⟩
  cases mx
  ·simp [execOp, resolve, invoke, builtin, Builtin.min_, Builtin.min2, (fX hx), (fX hy), Sem.run_bind, Sem.run_pure, Int.min_def]
   split <;> split <;> first | rfl | omega
  ·simp [execOp, resolve, invoke, builtin, Builtin.max_, Builtin.max2, (fX hx), (fX hy), Sem.run_bind, Sem.run_pure, Int.max_def]
   split <;> split <;> first | rfl | omega
 ·cases h
theorem lz (hI : bq w0 M Z0 b G s tv w) : ∀ {vs : List AV} {xs : List Value} {l : List Nat}, aw (RV G (zn w0 Z0 s G) w) vs xs → tO s.heap vs = some l →
   ∃ bs : List Nat, xs = bs.map (fun b => pv b 0) ∧ aw (fun j b => G[j]? = some .gone ∨ ∃ T vs, G[j]? = some (.cells b T vs)) l bs
 | [], xs, l, ha, h => by
  obtain rfl := ha.aV
  simp only [tO, Option.some.injEq] at h
  subst h
  exact ⟨[], rfl, aw.nil⟩
 | v :: vs, xs, l, ha, h => by
  obtain ⟨X, xs', rfl, h1, h2⟩ := ha.cons_inv
  unfold tO at h
  split at h
  ·rename_i e; cases e
  ·rename_i j vs' e
   simp only [List.cons.injEq] at e
   obtain ⟨rfl, rfl⟩ := e
   cases hl : oO s.heap j with
   | false => simp [hl] at h
   | true =>
    simp only [hl, cond_true, Option.map_eq_some_iff] at h
    obtain ⟨l', hl', rfl⟩ := h
    obtain ⟨bs, rfl, hh⟩ := lz hI h2 hl'
    obtain ⟨bb, T, vs0, hg⟩ := hI.oO hl
    exact ⟨bb :: bs, by rw [List.map_cons, jN h1.1 hg], aw.cons (.inr ⟨T, vs0, hg⟩) hh⟩
  ·cases h
end
end Go.Ab
namespace Go.Ab
open Go Go.Dk
section
variable {P : Program} {w0 w w' : World} {M Z0 : bn} {b : Nat} {G : List GO} {s : AS} {tv : List Value}
theorem HL {Z : bn} {L L' : List Res} (h : ∀ r ∈ L', r ∈ L) : ∀ k, jc w0 Z0 L k → jc w0 Z0 L' k := fun k hk => ⟨hk.1, fun r hr => hk.2 r (h r hr)⟩
theorem aO {Z Z' : bn} (h : ∀ k, Z k → Z' k) : fZ Z Z' w w := fun k hk _ => ⟨h k hk, rfl⟩
theorem bq.put (hI : bq w0 M Z0 b G s tv w) (d : Option Tmp) {v : AV} {X : Value} (h : RV G (zn w0 Z0 s G) w v X) :
   bq w0 M Z0 b G (s.put d v) (match d with | some d => tv.set d X | none => tv) w := by
 cases d with
 | none => exact hI
 | some d => exact ⟨hI.st.jv (aR _ _ _) fun hp => ⟨hp.1.set d h, hp.2⟩, hI.fresh, hI.mz⟩
theorem bq.len (hI : bq w0 M Z0 b G s tv w) : s.heap.length = G.length := hI.st.per.2.1
theorem iP {α : Type} {l : List α} {j : Nat} {a : α} (h : l[j]? = some a) : l.set j a = l := by
 apply List.ext_getElem?
 intro i
 by_cases hi : j = i
 ·subst hi; rw [List.getElem?_set_self (aC h), h]
 ·rw [List.getElem?_set_ne hi]
theorem bq.kg (hI : bq w0 M Z0 b G s tv w) {j : Nat} {e : TypeId} {D : SD} {ver : Nat} {fz : Bool} (hj : s.heap[j]? = some (.arr e D ver fz)) :
   bq w0 M Z0 b G ⟨s.tmps, s.heap.set j (.arr e D ver true)⟩ tv w ∧ (∀ k, zn w0 Z0 s G k → zn w0 Z0 ⟨s.tmps, s.heap.set j (.arr e D ver true)⟩ G k) := by
 cases fz with
 | true => rw [iP hj]; exact ⟨hI, fun _ h => h⟩
 | false =>
  obtain ⟨val, xs, hg, hrd⟩ := hI.pw hj
  have hP := hI.st.perm (dn s.heap G j hj hg)
  have hrest : (aU (s.heap.set j (.arr e D ver true)) G).Perm (aU (s.heap.set j .dead) (G.set j .gone)) := by
   have := dn (s.heap.set j (.arr e D ver true)) G j (o := .arr e D ver true) (g := .arr ver val D.kind.size xs) (by simp [aC hj]) hg
   rw [List.set_set] at this
   simpa [ji] using this
  have hS : St w0 M Z0 (iW e D.kind.size val D.len xs :: aU (s.heap.set j .dead) (G.set j .gone)) (B9 s G tv) w := by simpa [ji] using hP
  have hT := hS.tail.perm hrest.symm
  have hle : ∀ k, zn w0 Z0 s G k → jc w0 Z0 (aU (s.heap.set j (.arr e D ver true)) G) k := by
   refine HL (Z := Z0) fun r hr => ?_
   exact (dn s.heap G j hj hg).mem_iff.2 (List.mem_append.2 (.inr (hrest.mem_iff.1 hr)))
  refine ⟨⟨hT.jv (aR _ _ _) fun hp => ⟨hp.1, ?_⟩, hI.fresh, hI.mz⟩, hle⟩
  have := hp.2.set j (a := .arr e D ver true) (b := .arr ver val D.kind.size xs) ⟨rfl, rfl, ?_⟩
  ·rw [iP hg] at this; exact this
  ·show SlR _ _ _ _
   obtain ⟨a, c, ys, hX, hm, he, hc⟩ := hrd
   have ho := hS.own _ (List.mem_cons_self ..)
   have hcap : D.len ≤ c := by
    subst hX
    unfold iW at ho
    split at ho
    ·rename_i he; obtain ⟨h0, _⟩ := ho; rw [h0]; exact Nat.zero_le _
    ·simp only [yw] at ho
     rcases ho.2 with ⟨h2, h3⟩ | ⟨g, cap, cur, h2, _, _, hn, _⟩
     ·rw [h3]; exact Nat.zero_le _
     ·injection h2 with _ _ h5; omega
   refine ⟨a, c, ys, hX, hcap, hm, he.aM (aO hle), ?_⟩
   rcases hc with hc | ⟨b1, off, ha, hc⟩
   ·exact .inl hc
   ·by_cases hys : ys = []
    ·exact .inl hys
    ·refine .inr ⟨b1, off, ha, ?_, hc⟩
     have hc0 : c ≠ 0 := by
      rintro rfl
      have h0 : D.len = 0 := by omega
      have := he.length
      rw [h0, Nat.zero_mul] at this
      exact hys (List.eq_nil_of_length_eq_zero this)
     have hfoot : (iW e D.kind.size val D.len xs).foot b1 := by
      subst hX ha
      unfold iW
      split
      ·rename_i he; injection he with _ _ h3; exact absurd h3 hc0
      ·rfl
     have hk := (hS.key _ (List.mem_cons_self ..) b1 hfoot).1
     refine ⟨hk.imp (hI.mz b1) id, fun r hr hf => ?_⟩
     have hd := hS.dis
     rw [List.pairwise_cons] at hd
     exact hd.1 r (hrest.mem_iff.1 hr) b1 hfoot hf
theorem bq.lu (hI : bq w0 M Z0 b G s tv w) {j v : Nat} {e : TypeId} {D : SD} {ver : Nat} {X : Value} (hj : s.heap[j]? = some (.arr e D ver true)) (hv : v = ver) (hx : RS G (zn w0 Z0 s G) w (.own j v) X) :
   SlR (zn w0 Z0 s G) w D X := by
 obtain ⟨val, xs, hg, hh⟩ := hI.arr (v := 0) hj
 rw [ix hx hg hv]; exact hh
structure dd (w0 : World) (M Z0 : bn) (b : Nat) (G : List GO) (s : AS) (tv : List Value) (w : World) (h : List aq) : Prop where
 inv : bq w0 M Z0 b G ⟨s.tmps, h⟩ tv w
 le : ∀ k, zn w0 Z0 s G k → zn w0 Z0 ⟨s.tmps, h⟩ G k
 dead : ∀ j : Nat, s.heap[j]? = some .dead → h[j]? = some .dead
theorem dd.refl (hI : bq w0 M Z0 b G s tv w) : dd w0 M Z0 b G s tv w s.heap := ⟨hI, fun _ h => h, fun _ h => h⟩
theorem dd.trans {h h' : List aq} (h1 : dd w0 M Z0 b G s tv w h) (h2 : dd w0 M Z0 b G ⟨s.tmps, h⟩ tv w h') : dd w0 M Z0 b G s tv w h' :=
 ⟨h2.inv, fun k hk => h2.le k (h1.le k hk), fun j hj => h2.dead j (h1.dead j hj)⟩
variable {r : List V1 × List aq}
theorem jO (hI : bq w0 M Z0 b G s tv w) {v : SV} {X : Value} {k : SV → List aq → OR} (hx : cM G (zn w0 Z0 s G) w v X) (h : mg s.heap v k = some r) :
   ∃ v' h', k v' h' = some r ∧ dd w0 M Z0 b G s tv w h' ∧ cM G (zn w0 Z0 ⟨s.tmps, h'⟩ G) w v' X := by
 unfold mg at h
 split at h
 ·rename_i j v
  split at h
  ·rename_i e D ver fz hj
   obtain ⟨hv, h'⟩ := al h
   simp only [Nat.beq_eq] at hv
   obtain ⟨h1, h2⟩ := hI.kg hj
   refine ⟨_, _, h', ⟨h1, h2, fun i hi => ?_⟩, ?_, hx.2⟩
   ·have : j ≠ i := by rintro rfl; rw [hj] at hi; cases hi
    simpa [List.getElem?_set_ne this] using hi
   ·exact h1.lu (e := e) (by simp [aC hj]) hv (hx.1.aM (aO h2))
  ·cases h
 ·obtain ⟨⟨a, rfl⟩, h2⟩ := hx
  exact ⟨_, _, h, dd.refl hI, vV _ _, h2⟩
 ·exact ⟨_, _, h, dd.refl hI, hx⟩
theorem fJ : ∀ {l : List SV} {s : AS} {xs : List Value} {k : List SV → List aq → OR}, bq w0 M Z0 b G s tv w → aw (cM G (zn w0 Z0 s G) w) l xs → jE s.heap l k = some r →
   ∃ l' h', k l' h' = some r ∧ dd w0 M Z0 b G s tv w h' ∧ aw (cM G (zn w0 Z0 ⟨s.tmps, h'⟩ G) w) l' xs
 | [], s, xs, k, hI, ha, h => by
  obtain rfl := ha.aV
  exact ⟨_, _, h, dd.refl hI, aw.nil⟩
 | v :: l, s, xs, k, hI, ha, h => by
  obtain ⟨X, xs', rfl, h1, h2⟩ := ha.cons_inv
  unfold jE at h
  obtain ⟨v', h', hk, hs, hv⟩ := jO hI h1 h
  obtain ⟨l', h'', hk', hs', hl⟩ := fJ hs.inv (h2.mono fun _ _ _ q => ⟨q.1.aM (aO hs.le), q.2⟩) hk
  exact ⟨_, _, hk', hs.trans hs', aw.cons ⟨hv.1.aM (aO hs'.le), hv.2⟩ hl⟩
def SE.kind : SE → SK | .t _ => .t | .i _ => .i | .ii _ => .ii | .s _ => .s | .b _ => .b
theorem qV {Z : bn} {k : IntKind} {n : Int} {X : Value} (h : cM G Z w (.int k n) X) : X = .int k n := h.1
theorem AW {n : Int} (h0 : 0 ≤ n) (h1 : n ≤ 255) : ((UInt8.ofNat n.toNat).toNat : Int) = n := by
 have : (UInt8.ofNat n.toNat).toNat = n.toNat % 256 := by simp
 rw [this]; omega
theorem lJ {Z : bn} {e : SK} {l : List SV} {xs : List Value} {k : SE → OR} (ha : aw (cM G Z w) l xs) (h : elemOf e l k = some r) :
   ∃ x, k x = some r ∧ bZ Z w x xs ∧ x.kind = e ∧ (∀ v ∈ xs, r5 v = true) := by
 have h1 : ∀ v ∈ xs, r5 v = true := fun v hv => by
  obtain ⟨i, hi⟩ := List.getElem?_of_mem hv
  obtain ⟨a, _, hr⟩ := ha.get' hi
  exact hr.2
 unfold elemOf at h
 split at h
 ·rename_i a c l
  obtain ⟨x1, m1, rfl, e1, ha⟩ := ha.cons_inv
  obtain ⟨x2, m2, rfl, e2, ha⟩ := ha.cons_inv
  obtain ⟨x3, m3, rfl, e3, ha⟩ := ha.cons_inv
  obtain rfl := ha.aV
  obtain ⟨t, h2, h3, h4, h5, h6⟩ := HO e3.1 a c
  exact ⟨_, h, ⟨t, h2, h3, by rw [qV e1, qV e2, h4, h5, h6]⟩, rfl, h1⟩
 ·obtain ⟨x1, m1, rfl, e1, ha⟩ := ha.cons_inv
  obtain rfl := ha.aV
  exact ⟨_, h, by rw [qV e1]; rfl, rfl, h1⟩
 ·obtain ⟨x1, m1, rfl, e1, ha⟩ := ha.cons_inv
  obtain rfl := ha.aV
  obtain ⟨a, c, ys, h2, h3, h4, h5, h6⟩ := e1.1
  simp only [aE] at h5
  subst h5
  exact ⟨_, h, ⟨x1, rfl, a, c, h2, h3, h4, h6.imp (fun h => by simpa using h) id⟩, rfl, h1⟩
 ·obtain ⟨x1, m1, rfl, e1, ha⟩ := ha.cons_inv
  obtain rfl := ha.aV
  exact ⟨_, h, by rw [show x1 = _ from e1.1]; rfl, rfl, h1⟩
 ·obtain ⟨x1, m1, rfl, e1, ha⟩ := ha.cons_inv
  obtain rfl := ha.aV
  obtain ⟨hn, h⟩ := al h
  simp only [Bool.and_eq_true, decide_eq_true_eq] at hn
  exact ⟨_, h, by rw [qV e1]; show _ = _; rw [AW hn.1 hn.2], rfl, h1⟩
 ·cases h
theorem yI {Z : bn} {D D' : SD} {x : SE} {xs cs : List Value} (hd : aE Z w D xs) (hc : bZ Z w x cs) (h : D.snoc x = some D') :
   aE Z w D' (xs ++ cs) ∧ D'.len = D.len + 1 ∧ D'.kind = D.kind ∧ cs.length = D.kind.size ∧ x.kind = D.kind := by
 unfold SD.snoc at h
 split at h
 ·obtain rfl := Option.some.inj h
  obtain ⟨hs, rfl, rfl, hr⟩ := hd
  obtain ⟨t, rfl, ht, rfl⟩ := hc
  refine ⟨⟨hs ++ [t], by simp, by rw [lV, bH, fH], fun u hu => ?_⟩, by simp [SD.len], rfl, rfl, rfl⟩
  rcases List.mem_append.1 hu with hu | hu
  ·exact hr u hu
  ·rw [List.mem_singleton.1 hu]; exact ht
 ·obtain rfl := Option.some.inj h
  simp only [aE, bZ] at hd hc; subst hd hc
  exact ⟨by simp [aE], by simp [SD.len], rfl, rfl, rfl⟩
 ·obtain rfl := Option.some.inj h
  obtain ⟨X, rfl, hX⟩ := hc
  exact ⟨aw.append hd (aw.cons hX aw.nil), by simp [SD.len], rfl, rfl, rfl⟩
 ·obtain rfl := Option.some.inj h
  simp only [aE, bZ] at hd hc; subst hd hc
  exact ⟨by simp [aE], by simp [SD.len], rfl, rfl, rfl⟩
 ·obtain rfl := Option.some.inj h
  simp only [aE, bZ] at hd hc; subst hd hc
  exact ⟨by simp [aE], by simp [SD.len], rfl, rfl, rfl⟩
 ·cases h
theorem kn {e : SK} : ∀ {cs : List (List SV)} {s : AS} {xss : List (List Value)} {D : SD} {ys : List Value} {k : SD → List aq → OR}, bq w0 M Z0 b G s tv w →
   aw (aw (cM G (zn w0 Z0 s G) w)) cs xss → aE (zn w0 Z0 s G) w D ys → D.kind = e → jK e s.heap cs D k = some r →
   ∃ D' h', k D' h' = some r ∧ dd w0 M Z0 b G s tv w h' ∧ aE (zn w0 Z0 ⟨s.tmps, h'⟩ G) w D' (ys ++ xss.flatten) ∧ D'.len = D.len + cs.length ∧ D'.kind = e ∧ ∀ x ∈ xss, x.length = e.size ∧ ∀ v ∈ x, r5 v = true
 | [], s, xss, D, ys, k, hI, ha, he, hk, h => by
  obtain rfl := ha.aV
  exact ⟨D, s.heap, h, dd.refl hI, by simpa using he, rfl, hk, by simp⟩
 | c :: cs, s, xss, D, ys, k, hI, ha, he, hk, h => by
  obtain ⟨x, xss', rfl, h1, h2⟩ := ha.cons_inv
  unfold jK at h
  obtain ⟨c', h', h, hs, hc⟩ := fJ hI h1 h
  obtain ⟨el, h, hcr, hek, hone⟩ := lJ hc h
  obtain ⟨D1, hd1, h⟩ := bind_some h
  obtain ⟨g1, g2, g3, g4, g5⟩ := yI (he.aM (aO hs.le)) hcr hd1
  obtain ⟨D', h'', hk', hs', e1, e2, e3, e4⟩ := kn (k := k) hs.inv (h2.mono fun _ _ _ q => q.mono fun _ _ _ p => ⟨p.1.aM (aO hs.le), p.2⟩) g1 (g3.trans hk) h
  refine ⟨D', h'', hk', hs.trans hs', by rw [List.flatten_cons, ← List.append_assoc]; exact e1, by rw [e2, g2, List.length_cons]; omega, e3, ?_⟩
  intro y hy
  rcases List.mem_cons.1 hy with rfl | hy
  ·exact ⟨by rw [g4, hk], hone⟩
  ·exact e4 y hy
theorem bq.yG (hI : bq w0 M Z0 b G s tv w) {j : Nat} (h : G[j]? = some .fresh) : s.heap[j]? = some .dead := by
 obtain ⟨o, ho, hr⟩ := hI.st.per.2.get' h
 cases o with
 | dead => exact ho
 | _ => exact hr.elim
theorem bq.newObj (hI : bq w0 M Z0 b G s tv w) (hb : b < G.length) (hg : r4 w w') {o : aq} {g : GO} (hq : ∀ q ∈ ji o g, q.own w' ∧ ∀ k, q.foot k → w.heap.size ≤ k ∧ k < w'.heap.size)
   (hro : ∀ Z', fZ (zn w0 Z0 s G) Z' w w' → RO (G.set b g) Z' w' o g) :
   bq w0 M Z0 (b + 1) (G.set b g) ⟨s.tmps, s.heap.set b o⟩ tv w' ∧ fZ (zn w0 Z0 s G) (zn w0 Z0 ⟨s.tmps, s.heap.set b o⟩ (G.set b g)) w w' := by
 have hgb := hI.fresh b (Nat.le_refl _) hb
 have hdead := hI.yG hgb
 have hbl : b < s.heap.length := by rw [hI.len]; exact hb
 have hin := vg (h := s.heap) (G := G) o g hbl hb
 have hP := hI.st.perm (dn s.heap G b hdead hgb)
 rw [cC, List.nil_append] at hP
 have hone : ji o g = [] ∨ ∃ q, ji o g = [q] := by
  unfold ji; split
  ·exact .inr ⟨_, rfl⟩
  ·exact .inr ⟨_, rfl⟩
  ·exact .inl rfl
 have hup : Up G (G.set b g) := Up.set fun g0 h0 => by rw [hgb] at h0; obtain rfl := Option.some.inj h0; trivial
 have hfr : ∀ j, b + 1 ≤ j → j < (G.set b g).length → (G.set b g)[j]? = some .fresh := fun j hj hl => by
  rw [List.getElem?_set_ne (by omega)]; exact hI.fresh j (by omega) (by simpa using hl)
 have fin : ∀ {L : List Res}, St w0 M Z0 L (B9 s G tv) w' → L.Perm (aU (s.heap.set b o) (G.set b g)) → fZ (zn w0 Z0 s G) (jc w0 Z0 L) w w' →
    bq w0 M Z0 (b + 1) (G.set b g) ⟨s.tmps, s.heap.set b o⟩ tv w' ∧ fZ (zn w0 Z0 s G) (zn w0 Z0 ⟨s.tmps, s.heap.set b o⟩ (G.set b g)) w w' := by
  intro L hs hp hk
  have hk' : fZ (zn w0 Z0 s G) (jc w0 Z0 (aU (s.heap.set b o) (G.set b g))) w w' := fun k hz hl => ⟨⟨(hk k hz hl).1.1, fun q hq' => (hk k hz hl).1.2 q (hp.mem_iff.2 hq')⟩, (hk k hz hl).2⟩
  refine ⟨⟨(hs.perm hp).jv (aR _ _ _) fun hh => ⟨hh.1.mono fun _ _ _ q => q.up hup, ?_⟩, hfr, hI.mz⟩, hk'⟩
  exact (aw.mono hh.2 fun _ _ _ q => q.up hup).set b (hro _ hk')
 rcases hone with h0 | ⟨q, h1⟩
 ·rw [h0, List.nil_append] at hin
  refine fin (hP.grow hg) hin fun k hz hl => ⟨⟨hz.1, fun q hq' => hz.2 q ?_⟩, hg.blk hl⟩
  exact (dn s.heap G b hdead hgb).mem_iff.2 (by rw [cC, List.nil_append]; exact hq')
 ·rw [h1] at hin
  have hqq := hq q (by rw [h1]; exact List.mem_cons_self ..)
  have hql : q.Local := p8 o g q (by rw [h1]; exact List.mem_cons_self ..)
  refine fin (hP.push hg hql hqq.1 hqq.2) hin fun k hz hl => ⟨⟨hz.1, fun q' hq' => ?_⟩, hg.blk hl⟩
  rcases List.mem_cons.1 hq' with rfl | hq'
  ·intro hf; have := (hqq.2 k hf).1; omega
  ·exact hz.2 q' ((dn s.heap G b hdead hgb).mem_iff.2 (by rw [cC, List.nil_append]; exact hq'))
theorem bq.B6 (hI : bq w0 M Z0 b G s tv w) {j : Nat} {o o' : aq} {g g' : GO} {q q' : Res} (hj : s.heap[j]? = some o) (hgj : G[j]? = some g) (hne : g ≠ .fresh) (h1 : ji o g = [q]) (hx : Ext q.foot w w') (h1' : ji o' g' = [q'])
   (ho : q'.own w') (hf : ∀ k, q'.foot k → (q.foot k ∨ w.heap.size ≤ k) ∧ k < w'.heap.size) (hup : Up G (G.set j g'))
   (hro : ∀ Z', fZ (zn w0 Z0 s G) Z' w w' → RO (G.set j g') Z' w' o' g') :
   bq w0 M Z0 b (G.set j g') ⟨s.tmps, s.heap.set j o'⟩ tv w' ∧ fZ (zn w0 Z0 s G) (zn w0 Z0 ⟨s.tmps, s.heap.set j o'⟩ (G.set j g')) w w' := by
 have hjl := aC hj
 have hgl := aC hgj
 have hin := vg (h := s.heap) (G := G) o' g' hjl hgl
 have hP := hI.st.perm (dn s.heap G j hj hgj)
 rw [h1] at hP
 rw [h1'] at hin
 have hU : St w0 M Z0 (q' :: aU (s.heap.set j .dead) (G.set j .gone)) (B9 s G tv) w' := by
  have := hP.upd (n := 0) (r := q) (r' := q') rfl hx (p8 o' g' q' (by rw [h1']; exact List.mem_cons_self ..)) ho hf
  simpa using this
 have hk' : fZ (zn w0 Z0 s G) (jc w0 Z0 (aU (s.heap.set j o') (G.set j g'))) w w' := fun k hz hl => by
  have hqn : ¬ q.foot k := hz.2 q (ky hj hgj (by rw [h1]; exact List.mem_cons_self ..))
  refine ⟨⟨hz.1, fun p hp => ?_⟩, hx.block k hl hqn⟩
  rcases List.mem_cons.1 (hin.mem_iff.2 hp) with rfl | hp
  ·intro hf'
   rcases (hf k hf').1 with h2 | h2
   ·exact hqn h2
   ·omega
  ·exact hz.2 p ((dn s.heap G j hj hgj).mem_iff.2 (List.mem_append.2 (.inr hp)))
 refine ⟨⟨(hU.perm hin).jv (aR _ _ _) fun hh => ⟨hh.1.mono fun _ _ _ p => p.up hup, ?_⟩, fun i hi hl => ?_, hI.mz⟩, hk'⟩
 ·exact (aw.mono hh.2 fun _ _ _ p => p.up hup).set j (hro _ hk')
 ·have : j ≠ i := by
    rintro rfl
    have := hI.fresh j hi hgl
    rw [hgj] at this
    exact hne (Option.some.inj this)
  rw [List.getElem?_set_ne this]; exact hI.fresh i hi (by simpa using hl)
end
end Go.Ab
namespace Go.Ab
open Go Go.Dk
section
variable {P : Program} {w0 w w' : World} {M Z0 : bn} {b : Nat} {G : List GO} {s : AS} {tv : List Value} {r : List V1 × List aq}
theorem yn {X : Value} (h : r5 X = true) : X.cells = #[X] := by cases X <;> first | rfl | (simp [r5] at h)
theorem mj {Z : bn} {v : AV} {X : Value} {c : List SV} (h : v.cs = some c) (hx : RV G Z w v X) : ∃ xs : List Value, X.cells = xs.toArray ∧ aw (cM G Z w) c xs := by
 unfold AV.cs at h
 split at h
 ·cases h
 ·rename_i v hne
  obtain rfl := Option.some.inj h
  have h1 := hx.2 (fun e => hne (by rw [e]))
  exact ⟨[X], yn h1, aw.cons ⟨hx.1, h1⟩ aw.nil⟩
 ·obtain rfl := Option.some.inj h
  obtain ⟨xs, rfl, hh⟩ := hx
  exact ⟨xs, rfl, hh⟩
 ·cases h
theorem sX {Z : bn} : ∀ {vs : List AV} {Xs : List Value} {cs : List (List SV)}, csL vs = some cs → aw (RV G Z w) vs Xs →
   ∃ xss : List (List Value), Xs.map Value.cells = xss.map List.toArray ∧ aw (aw (cM G Z w)) cs xss
 | [], Xs, cs, h, ha => by
  obtain rfl := ha.aV
  simp only [csL, Option.some.injEq] at h; subst h
  exact ⟨[], rfl, aw.nil⟩
 | v :: vs, Xs, cs, h, ha => by
  obtain ⟨X, Xs', rfl, h1, h2⟩ := ha.cons_inv
  simp only [csL] at h
  cases hv : v.cs with
  | none => simp [hv] at h
  | some c =>
   simp only [hv, Option.bind_some, Option.map_eq_some_iff] at h
   obtain ⟨cs', hcs, rfl⟩ := h
   obtain ⟨xs, he, hh⟩ := mj hv h1
   obtain ⟨xss, he', hh'⟩ := sX hcs h2
   exact ⟨xs :: xss, by simp [he, he'], aw.cons hh hh'⟩
theorem bq.raise {b' : Nat} (hI : bq w0 M Z0 b G s tv w) (h : b ≤ b') : bq w0 M Z0 b' G s tv w := ⟨hI.st, fun j hj hl => hI.fresh j (Nat.le_trans h hj) hl, hI.mz⟩
theorem cM.mono {Z Z' : bn} {G' : List GO} {v : SV} {X : Value} (h : cM G Z w v X) (hk : fZ Z Z' w w') (hu : Up G G') : cM G' Z' w' v X := ⟨(h.1.aM hk).up hu, h.2⟩
variable {ρ : Operand → Value} {x y : Operand} {d : Option Tmp} {ty t t' : TypeId} {pos : String} {aft : Array Edge} {gd : Option (Nat × Bool)} {vx vy : AV} {X : Value}
theorem xt (hI : bq w0 M Z0 b G s tv w) (hb : b < G.length) {l : List SV} {xs : List Value} (ha : aw (cM G (zn w0 Z0 s G) w) l xs) (T : TypeId) :
   bq w0 M Z0 (b + 1) (G.set b (.cells w.heap.size T xs)) ⟨s.tmps, s.heap.set b (.cells l)⟩ tv (w.alloc (.cells xs.toArray T (0, 0))) ∧
   RV (G.set b (.cells w.heap.size T xs)) (zn w0 Z0 ⟨s.tmps, s.heap.set b (.cells l)⟩ (G.set b (.cells w.heap.size T xs))) (w.alloc (.cells xs.toArray T (0, 0))) (.v (.one (.ptr b 0))) (pv w.heap.size 0) ∧ Up G (G.set b (.cells w.heap.size T xs)) := by
 have hup : Up G (G.set b (.cells w.heap.size T xs)) := Up.set fun g0 h0 => by rw [hI.fresh b (Nat.le_refl _) hb] at h0; obtain rfl := Option.some.inj h0; trivial
 refine ⟨(hI.newObj hb (r4.alloc _ _) (o := .cells l) (g := .cells w.heap.size T xs) (fun q hq => ?_) (fun Z' hk => ?_)).1, ⟨.inr ⟨w.heap.size, T, xs, by simp [hb], rfl⟩, fun _ => rfl⟩, hup⟩
 ·simp only [ji, List.mem_singleton] at hq
  subst hq
  refine ⟨mT _ _, fun k hk => ?_⟩
  simp only [blk] at hk; subst hk; rw [iS]; omega
 ·exact ha.mono fun _ _ _ q => q.mono hk hup
theorem zY {e : TypeId} {cs : List Value} (hz : me P e = some cs) : (execOp ρ ⟨d, .alloc e, ty, pos, aft, gd⟩).run P w = .ok (.value (pv w.heap.size 0)) (w.alloc (.cells cs.toArray e (0, 0))) := by
 unfold me at hz
 split at hz
 ·rename_i i hi
  split at hz
  ·rename_i z hzz
   obtain rfl := Option.some.inj hz
   have hzv : (zeroValue e).run P w = .ok z w := by
    simp only [zeroValue, Sem.run_bind, Go.Dk.run_typeInfo hi, Result.andThen_ok, hzz, Sem.run_pure]
   simp only [execOp, Instr.alloc, Sem.run_bind, hzv, pI, Result.andThen_ok, Sem.run_pure, Array.toArray_toList]
   rfl
  ·cases hz
 ·cases hz
theorem EV {e : TypeId} {cs : List Value} (hc : (ρ x).cells = cs.toArray) : (execOp ρ ⟨d, .box e x, ty, pos, aft, gd⟩).run P w = .ok (.value (pv w.heap.size 0)) (w.alloc (.cells cs.toArray e (0, 0))) := by
 simp only [execOp, Instr.box, Sem.run_bind, pI, hc, Result.andThen_ok, Sem.run_pure]
 rfl
theorem tC {e : TypeId} {z : List SV} (h : Ad P e = some z) : ∃ cs, me P e = some cs ∧ ∀ G Z w, aw (cM G Z w) z cs := by
 unfold Ad at h
 cases hz : me P e with
 | none => simp [hz] at h
 | some cs =>
  simp only [hz, Option.bind_some] at h
  cases hc : cs.all r5 with
  | false => simp [hc] at h
  | true =>
   simp only [hc, cond_true, Option.some.injEq] at h
   subst h
   exact ⟨cs, rfl, fun G Z w => j5 _ _ fun v hv => List.all_eq_true.1 hc v hv⟩
theorem ir {bb off : Nat} {T : TypeId} : ∀ (vs : List Value) (i : Nat) (cs : List Value) (w : World), w.heap[bb]? = some (.cells cs.toArray T (0, 0)) →
   (∀ v ∈ vs, r5 v = true) → off + i + vs.length ≤ cs.length →
   ∃ w', (storeCells ⟨bb, off, none⟩ vs i).run P w = .ok () w' ∧ w'.heap[bb]? = some (.cells (gV cs (off + i) vs).toArray T (0, 0)) ∧ Ext (· = bb) w w'
 | [], i, cs, w, hn, _, _ => ⟨w, rfl, hn, Ext.refl _ _⟩
 | v :: vs, i, cs, w, hn, h1, hl => by
  simp only [List.length_cons] at hl
  have hlt : off + i < cs.length := by omega
  have hcell : w.cell? ⟨bb, off + i, none⟩ = some cs[off + i] := by simp [World.cell?, hn, hlt]
  have hfr : w.frozen? ⟨bb, off + i, none⟩ = false := by simp [World.frozen?, hn]
  have hn' : (w.setCell ⟨bb, off + i, none⟩ v).heap[bb]? = some (.cells (cs.set (off + i) v).toArray T (0, 0)) := by
   simp [World.setCell, Array.getElem?_modify, hn]
  obtain ⟨w', hr, hh, hx⟩ := ir (off := off) vs (i + 1) (cs.set (off + i) v) _ hn' (fun u hu => h1 u (List.mem_cons_of_mem _ hu)) (by simp; omega)
  refine ⟨w', ?_, hh, (Ext.setCell w ⟨bb, off + i, none⟩ v).trans hx⟩
  simp only [storeCells, iO, Sem.run_bind, store]
  rw [Go.Dk.run_store (h1 v (List.mem_cons_self ..)) hcell hfr]
  simp only [Sem.run, Result.andThen_ok]
  exact hr
theorem lQ {bb off m : Nat} {T : TypeId} {cs vs : List Value} (hX : ρ x = pv bb off) (hc : (ρ y).cells = vs.toArray) (hsz : (P.info? t).map (·.size) = some m) (hm : m = vs.length)
   (hn : w.heap[bb]? = some (.cells cs.toArray T (0, 0))) (h1 : ∀ v ∈ vs, r5 v = true) (hl : off + vs.length ≤ cs.length) :
   ∃ w', (execOp ρ ⟨d, .store t x y, ty, pos, aft, gd⟩).run P w = .ok .skip w' ∧ w'.heap[bb]? = some (.cells (gV cs off vs).toArray T (0, 0)) ∧ Ext (· = bb) w w' := by
 obtain ⟨w', hr, hh, hx⟩ := ir (P := P) (off := off) vs 0 cs w hn h1 (by simpa using hl)
 refine ⟨w', ?_, by simpa using hh, hx⟩
 cases hi : P.info? t with
 | none => simp [hi] at hsz
 | some i =>
  simp only [hi, Option.map_some, Option.some.injEq] at hsz
  have hne : ¬ (vs.toArray.size ≠ i.size) := by rw [hsz, hm]; simp
  simp only [execOp, Instr.storeAt, hX, pv, Instr.sureAddr, storeVar, Sem.run_bind, Sem.run_pure, Result.andThen_ok, Go.Dk.run_sizeOf hi, if_neg hne, hc, hr]
theorem wv {R : SV → Value → Prop} : ∀ {c : List SV} {ys : List Value} {l : List SV} {vs : List Value} {off : Nat}, aw R l vs → aw R c ys → aw R (Fh l off c) (gV vs off ys)
 | [], ys, l, vs, off, hl, hc => by obtain rfl := hc.aV; exact hl
 | x :: c, ys, l, vs, off, hl, hc => by
  obtain ⟨y, ys', rfl, h1, h2⟩ := hc.cons_inv
  show aw R (Fh (l.set off x) (off + 1) c) (gV (vs.set off y) (off + 1) ys')
  exact wv (hl.set off h1) h2
theorem bZ.length {Z : bn} {e : SE} {cs : List Value} {k : SK} (h : bZ Z w e cs) (hk : e.kind = k) : cs.length = k.size := by
 subst hk
 cases e with
 | t x => obtain ⟨t, _, _, rfl⟩ := h; rfl
 | i n => simp only [bZ] at h; subst h; rfl
 | ii l => obtain ⟨x, rfl, _⟩ := h; rfl
 | s x => simp only [bZ] at h; subst h; rfl
 | b c => simp only [bZ] at h; subst h; rfl
theorem EX {Z : bn} {l : List SV} {xs : List Value} (h : aw (cM G Z w) l xs) : ∀ v ∈ xs, r5 v = true := fun v hv => by
 obtain ⟨i, hi⟩ := List.getElem?_of_mem hv
 obtain ⟨a, _, hr⟩ := h.get' hi
 exact hr.2
theorem tu (n : Nat) : ∀ (vs cs : List Value) (off : Nat), (gV cs off vs).take n = gV (cs.take n) off vs
 | [], cs, off => rfl
 | v :: vs, cs, off => by
  simp only [gV]
  rw [tu n vs, List.take_set]
theorem rZ {α : Type} (f : α → Value) (l : List α) (i : Nat) (x : α) : gV (l.map f) i [f x] = (l.set i x).map f := by
 simp [gV, List.map_set]
theorem tK : ∀ (hs : List HT) (i : Nat) (t : HT), gV (fo hs) (i * 3) [.int .i64 t.k, .int .i64 t.n, t.sl] = fo (hs.set i t)
 | [], i, t => by simp [fH, gV]
 | h :: hs, 0, t => by rw [bH]; simp [gV, bH]
 | h :: hs, i + 1, t => by
  have := tK hs i t
  rw [bH, List.set_cons_succ, bH, ← this]
  rw [show (i + 1) * 3 = i * 3 + 1 + 1 + 1 by omega]
  simp [gV]
theorem aE.set {Z : bn} {D : SD} {xs cs : List Value} {e : SE} {i : Nat} {k : SD → OR} (hd : aE Z w D xs) (hc : bZ Z w e cs) (h : D.set i e k = some r) :
   ∃ D', k D' = some r ∧ D'.len = D.len ∧ D'.kind = D.kind ∧ aE Z w D' (gV xs (i * D.kind.size) cs) := by
 unfold SD.set at h
 split at h
 ·obtain ⟨hs, rfl, rfl, hr⟩ := hd
  obtain ⟨t, rfl, ht, rfl⟩ := hc
  refine ⟨_, h, by simp [SD.len], rfl, hs.set i t, by rw [List.map_set], tK hs i t, fun u hu => ?_⟩
  rcases List.mem_or_eq_of_mem_set hu with hu | rfl
  ·exact hr u hu
  ·exact ht
 ·simp only [aE, bZ] at hd hc; subst hd hc
  exact ⟨_, h, by simp [SD.len], rfl, by simp only [SD.kind, SK.size, Nat.mul_one]; exact rZ _ _ _ _⟩
 ·obtain ⟨X, rfl, hX⟩ := hc
  exact ⟨_, h, by simp [SD.len], rfl, by simp only [SD.kind, SK.size, Nat.mul_one]; exact aw.set hd i hX⟩
 ·simp only [aE, bZ] at hd hc; subst hd hc
  exact ⟨_, h, by simp [SD.len], rfl, by simp only [SD.kind, SK.size, Nat.mul_one]; exact rZ _ _ _ _⟩
 ·simp only [aE, bZ] at hd hc; subst hd hc
  exact ⟨_, h, by simp [SD.len], rfl, by simp only [SD.kind, SK.size, Nat.mul_one]; exact rZ (fun c : UInt8 => Value.int .u8 (c.toNat : Int)) _ _ _⟩
 ·cases h
theorem eF {e sz n m c : Nat} {a : Option Addr} {xs : List Value} (h : c ≠ 0) : iW e sz (.slice a n c) m xs = yw e sz (.slice a n c) m xs := by
 unfold iW
 split
 ·rename_i he; injection he with _ _ h3; exact absurd h3 h
 ·rfl
theorem fw {e sz n m : Nat} {a : Option Addr} {xs : List Value} : iW e sz (.slice a n 0) m xs = ⟨fun _ => False, fun _ => m = 0 ∧ xs = [] ∧ (.slice a n 0 : Value) = .slice a 0 0⟩ := rfl
theorem bq.row (hI : bq w0 M Z0 b G s tv w) {j : Nat} {e : TypeId} {D : SD} {ver : Nat} (hj : s.heap[j]? = some (.arr e D ver false)) :
   ∃ val xs, G[j]? = some (.arr ver val D.kind.size xs) ∧ aE (zn w0 Z0 s G) w D xs ∧ (∃ a c, val = .slice a D.len c) ∧ (iW e D.kind.size val D.len xs).own w := by
 obtain ⟨val, xs, hg, h1, h2⟩ := hI.arr (v := 0) hj
 exact ⟨val, xs, hg, h1, h2, hI.st.own _ (ky hj hg (by simp [ji]))⟩
theorem FG {Z Z' : bn} (h : ∀ k, Z k ↔ Z' k) (hx : Ext Z w w') : Ext Z' w w' := hx.jv fun k _ hk => (h k).1 hk
theorem rk (hI : bq w0 M Z0 b G s tv w) {k : List aq → OR} (hx : RV G (zn w0 Z0 s G) w vx (ρ x)) (hy : RV G (zn w0 Z0 s G) w vy (ρ y)) (h : nT P t vx vy s.heap k = some r) :
   ∃ h' G' w', k h' = some r ∧ (execOp ρ ⟨d, .store t x y, ty, pos, aft, gd⟩).run P w = .ok .skip w' ∧ bq w0 M Z0 b G' ⟨s.tmps, h'⟩ tv w' ∧ h'.length = s.heap.length ∧ Up G G' := by
 unfold nT at h
 split at h
 ·rename_i m hsz
  replace h := bind_some h; obtain ⟨yc, hyc, h⟩ := h
  obtain ⟨ys, hcells, hys⟩ := mj hyc hy
  split at h
  ·rename_i j off
   split at h
   ·rename_i l hj
    replace h := al h; obtain ⟨hm, h⟩ := h
    simp only [Bool.and_eq_true, Nat.beq_eq, Nat.ble_eq] at hm
    obtain ⟨bb, T, vs, hg, ha, _, hmem⟩ := hI.cells hj
    have hown : w.heap[bb]? = some (.cells vs.toArray T (0, 0)) := hI.st.own _ hmem
    obtain ⟨w', hr, hh, hext⟩ := lQ (P := P) (t := t) (d := d) (ty := ty) (pos := pos) (aft := aft) (gd := gd) (jN hx.1 hg) hcells hsz (by rw [hm.1, hys.1]) hown (EX hys) (by rw [← hys.1, ← ha.1]; omega)
    have hup : Up G (G.set j (.cells bb T (gV vs off ys))) := Up.set fun g0 h0 => by rw [hg] at h0; obtain rfl := Option.some.inj h0; rfl
    have hu := hI.B6 (o' := .cells (Fh l off yc)) (g' := .cells bb T (gV vs off ys)) (q := blk bb vs T) (q' := blk bb (gV vs off ys) T) hj hg nofun rfl hext rfl hh
     (fun k hk => ⟨.inl hk, by simp only [blk] at hk; subst hk; exact tb hh⟩) hup
     (fun Z' hk => (wv ha hys).mono fun _ _ _ q => q.mono hk hup)
    exact ⟨_, _, w', h, hr, hu.1, by simp, hup⟩
   ·cases h
  ·rename_i j v i
   replace h := fJ hI hys h; obtain ⟨c, h', h, hs, hc⟩ := h
   split at h
   ·rename_i e D ver hj
    replace h := al h; obtain ⟨hm, h⟩ := h
    simp only [Bool.and_eq_true, Nat.beq_eq] at hm
    obtain ⟨rfl, rfl⟩ := hm
    replace h := lJ hc h; obtain ⟨el, h, hcr, hek, hone⟩ := h
    have hI' := hs.inv
    obtain ⟨val, xs, hg, hel, ⟨a, cc, hval⟩, hrow⟩ := hI'.row hj
    obtain ⟨bb, off, n, c', hv, hi, hX⟩ := AK hx.1 hg
    replace h := aE.set hel hcr h; obtain ⟨D', h, hlen, hkind, hset⟩ := h
    rw [hv] at hval
    injection hval with e1 e2 e3
    subst e1 e2 e3
    have hclen := hcr.length hek
    have hrow' := hrow
    rw [hv] at hrow'
    have hc0 : c' ≠ 0 := by
     rintro rfl
     rw [fw] at hrow'
     have := hrow'.1; omega
    rw [eF hc0] at hrow'
    obtain ⟨rfl, _, _⟩ := qc hrow' rfl
    simp only [yw] at hrow'
    obtain ⟨hxl, hrow'⟩ := hrow'
    rcases hrow' with ⟨hh, _⟩ | ⟨g, cap, cur, hh, _, hgg, hnc, hcm, hcs, htake⟩
    ·cases hh
    ·injection hh with e1 _ e3
     injection e1 with e1
     injection e1 with e1 _
     subst e1 e3
     have hcl : cur.toList.length = c' * D.kind.size := by rw [Array.length_toList, hcs]
     have hbd : i * D.kind.size + ys.length ≤ D.len * D.kind.size := by
      rw [hclen, ← Nat.succ_mul]; exact Nat.mul_le_mul_right _ hi
     have hbd2 : D.len * D.kind.size ≤ c' * D.kind.size := Nat.mul_le_mul_right _ hnc
     obtain ⟨w', hr, hh, hext⟩ := lQ (P := P) (t := t) (d := d) (ty := ty) (pos := pos) (aft := aft) (gd := gd) (bb := bb) (cs := cur.toList) (off := i * D.kind.size) (by rw [hX]; simp) hcells hsz hclen.symm (by simpa using hgg) hone (by rw [hcl]; omega)
     have hup : Up G (G.set j (.arr v val D.kind.size (gV xs (i * D.kind.size) ys))) := Up.set fun g0 h0 => by rw [hg] at h0; obtain rfl := Option.some.inj h0; exact ⟨rfl, .inr ⟨rfl, rfl⟩⟩
     have hu := hI'.B6 (o' := .arr e D' v false) (g' := .arr v val D.kind.size (gV xs (i * D.kind.size) ys)) (q := iW e D.kind.size val D.len xs) (q' := iW e D.kind.size val D'.len (gV xs (i * D.kind.size) ys)) hj hg nofun rfl
      (by rw [hv, eF hc0]; exact FG (fun k => by simp only [yw, Value.ownBlock]; exact ⟨fun h => by rw [h], fun h => (Option.some.inj h).symm⟩) hext) rfl
      (by
       rw [hv, eF hc0, hlen]
       simp only [yw]
       refine ⟨by rw [gv]; exact hxl, .inr ⟨bb, c', _, rfl, Nat.zero_le _, hh, hnc, hcm, by simp [gv, hcl], ?_⟩⟩
       simp only [List.toList_toArray]
       rw [← htake, tu])
      (by
       rw [hv, eF hc0, eF hc0]
       intro k hk
       refine ⟨.inl hk, ?_⟩
       simp only [yw, Value.ownBlock] at hk
       obtain rfl := Option.some.inj hk
       exact tb hh) hup
      (fun Z' hk => ⟨rfl, hkind.symm ▸ rfl, hset.aM hk, by rw [hlen]; exact ⟨_, _, hv⟩⟩)
     exact ⟨_, _, w', h, hr, hu.1, by rw [List.length_set]; have := hs.inv.len; have := hI.len; simp at *; omega, hup⟩
   ·cases h
  ·cases h
 ·cases h
end
end Go.Ab
end
