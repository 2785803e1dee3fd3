/- The abstract run: calls, regions, code, functions. No program in sight. -/
import Derived.Test.YthjbllfcelkajaaAbs
set_option linter.unusedVariables false
namespace Go.Ab
open Go Go.Dk

/-! Which objects a value stands on; a memory of some objects alone. -/
def refsS : SV → List Nat
  | .own j _ => [j]
  | .ptr j _ => [j]
  | .op j _ _ _ => [j]
  | .fn _ l => l
  | _ => []
def refsO : Option AObj → List Nat
  | some (.cells l) => l.flatMap refsS
  | _ => []
def hasN (j : Nat) : List Nat → Bool
  | [] => false
  | i :: l => Nat.beq j i || hasN j l
def reach (h : List AObj) : Nat → List Nat → List Nat → List Nat
  | 0, _, seen => seen
  | _, [], seen => seen
  | n + 1, j :: todo, seen => cond (hasN j seen) (reach h n todo seen) (reach h n (refsO h[j]? ++ todo) (seen ++ [j]))
def idx (j : Nat) : List Nat → Option Nat
  | [] => none
  | i :: l => cond (Nat.beq j i) (some 0) ((idx j l).map (· + 1))
def idxs (js : List Nat) : List Nat → Option (List Nat)
  | [] => some []
  | j :: l => (idx j js).bind fun i => (idxs js l).map (i :: ·)
def renS (js : List Nat) : SV → SV
  | .own j v => (match idx j js with | some i => .own i v | none => .any)
  | .ptr j o => (match idx j js with | some i => .ptr i o | none => .any)
  | .op j v i o => (match idx j js with | some j => .op j v i o | none => .any)
  | .fn f l => (match idxs js l with | some l => .fn f l | none => .any)
  | x => x
def renV (js : List Nat) : V1 → V1 | .one s => .one (renS js s) | .agg l => .agg (l.map (renS js))
def renA (js : List Nat) : AV → AV | .v x => .v (renV js x) | .tup l => .tup (l.map (renV js))
def renO (js : List Nat) : AObj → AObj | .cells l => .cells (l.map (renS js)) | o => o
def selH (js : List Nat) (h : List AObj) : List AObj := js.map fun j => renO js (h.getD j .dead)
def refsV : V1 → List Nat | .one s => refsS s | .agg l => l.flatMap refsS
def refsA : AV → List Nat | .v x => refsV x | .tup l => l.flatMap refsV

/-! What a function hands back. -/
/-- A cell that speaks of no object. -/
def clean : SV → SV
  | .own _ _ => .any
  | .ptr _ _ => .any
  | .op _ _ _ _ => .any
  | .fn _ _ => .any
  | x => x
/-- Cells as they are handed back: frozen, or as objects of their own, numbered from b on. -/
def outC (own : Bool) : List SV → List AObj → Nat → (List SV → List AObj → List AObj → OR) → OR
  | [], h, _, k => k [] h []
  | .own j v :: l, h, b, k => (match h[j]? with
    | some (.arr e d ver fz) => cond (Nat.beq v ver) (cond own
        (cond fz none (outC own l (h.set j .dead) (b + 1) fun cs h os => k (.own b 0 :: cs) h (.arr e d 0 false :: os)))
        (outC own l (h.set j (.arr e d ver true)) b fun cs h os => k (.fr d :: cs) h os)) none
    | _ => none)
  | .emp (some e) :: l, h, b, k => cond own
      (outC own l h (b + 1) fun cs h os => k (.own b 0 :: cs) h (.arr e.1 e.2.nil 0 false :: os))
      (outC own l h b fun cs h os => k (.fr e.2.nil :: cs) h os)
  | .ptr j 0 :: l, h, b, k => (match h[j]? with
    | some (.cells c) => sealL h c fun c h => outC own l (h.set j .dead) (b + 1) fun cs h os => k (.ptr b 0 :: cs) h (.cells (c.map clean) :: os)
    | _ => none)
  | .int a n :: l, h, b, k => outC own l h b fun cs h os => k (.int a n :: cs) h os
  | .bool x :: l, h, b, k => outC own l h b fun cs h os => k (.bool x :: cs) h os
  | .str x :: l, h, b, k => outC own l h b fun cs h os => k (.str x :: cs) h os
  | .fr x :: l, h, b, k => outC own l h b fun cs h os => k (.fr x :: cs) h os
  | _ :: l, h, b, k => outC own l h b fun cs h os => k (.any :: cs) h os
/-- The objects that were handed in, as they are handed back. -/
def outO (m : Nat) : Nat → List AObj → (List AObj → OR) → OR
  | 0, h, k => k []
  | n + 1, h, k => (match h[m - (n + 1)]? with
    | some (.cells c) => sealL h c fun c h => outO m n h fun os => k (.cells (c.map clean) :: os)
    | _ => outO m n h fun os => k (.dead :: os))
def outVs (own : Bool) : List V1 → List AObj → Nat → (List V1 → List AObj → List AObj → OR) → OR
  | [], h, _, k => k [] h []
  | .one .any :: l, h, b, k => outVs own l h b fun vs h os => k (.one .any :: vs) h os
  | .one x :: l, h, b, k => outC own [x] h b fun c h os => (match c with
    | [x] => outVs own l h (b + os.length) fun vs h os' => k (.one x :: vs) h (os ++ os')
    | _ => none)
  | .agg c :: l, h, b, k => outC own c h b fun c h os => outVs own l h (b + os.length) fun vs h os' => k (.agg c :: vs) h (os ++ os')
def resC (P : Program) (s : AS) : List ResultVar → (List V1 → OR) → OR
  | [], k => k []
  | .tmp t :: l, k => (match s.tmps.getD t anyV with
    | .v x => resC P s l fun vs => k (x :: vs)
    | _ => none)
  | .cell a t :: l, k => evLoad P t (s.tmps.getD a anyV) s.heap fun v => (match v with
    | .v x => resC P s l fun vs => k (x :: vs)
    | _ => none)
def finish (P : Program) (own : Bool) (fn : Func) (m : Nat) (s : AS) : OR :=
  cond (Nat.ble m s.heap.length) (resC P s fn.results.toList fun vs => outVs own vs s.heap m fun vs h os => outO m m h fun ps => some (vs, ps ++ os)) none

/-! What a call hands back, taken apart by what is expected. -/
def intC (a : IntKind) (l : List SV) (k : Int → List SV → OR) : OR := match l with | .int b n :: l => cond (ikEq a b) (k n l) none | _ => none
def boolC (l : List SV) (k : Bool → List SV → OR) : OR := match l with | .bool b :: l => k b l | _ => none
def strC (l : List SV) (k : ByteArray → List SV → OR) : OR := match l with | .str x :: l => k x l | _ => none
def tsC (l : List SV) (k : List T → List SV → OR) : OR := match l with | .fr (.ts x) :: l => k x l | _ => none
def isC (l : List SV) (k : List Int → List SV → OR) : OR := match l with | .fr (.is x) :: l => k x l | _ => none
def issC (l : List SV) (k : List (List Int) → List SV → OR) : OR := match l with | .fr (.iss x) :: l => k x l | _ => none
def ssC (l : List SV) (k : List ByteArray → List SV → OR) : OR := match l with | .fr (.ss x) :: l => k x l | _ => none
def bsC (l : List SV) (k : List UInt8 → List SV → OR) : OR := match l with | .fr (.bs x) :: l => k x l | _ => none
def anyC (l : List SV) (k : List SV → OR) : OR := match l with | _ :: l => k l | _ => none
def nilC (l : List SV) (k : OR) : OR := match l with | [] => k | _ => none
def slC (e : SK) (l : List SV) (k : SD → List SV → OR) : OR :=
  match e with
  | .t => tsC l fun x l => k (.ts x) l
  | .i => isC l fun x l => k (.is x) l
  | .ii => issC l fun x l => k (.iss x) l
  | .s => ssC l fun x l => k (.ss x) l
  | .b => bsC l fun x l => k (.bs x) l
def rInt (a : IntKind) (l : List V1) (k : Int → List V1 → OR) : OR := match l with | .one (.int b n) :: l => cond (ikEq a b) (k n l) none | _ => none
def rBool (l : List V1) (k : Bool → List V1 → OR) : OR := match l with | .one (.bool b) :: l => k b l | _ => none
def rStr (l : List V1) (k : ByteArray → List V1 → OR) : OR := match l with | .one (.str x) :: l => k x l | _ => none
def rTs (l : List V1) (k : List T → List V1 → OR) : OR := match l with | .one (.fr (.ts x)) :: l => k x l | _ => none
def rIs (l : List V1) (k : List Int → List V1 → OR) : OR := match l with | .one (.fr (.is x)) :: l => k x l | _ => none
def rIss (l : List V1) (k : List (List Int) → List V1 → OR) : OR := match l with | .one (.fr (.iss x)) :: l => k x l | _ => none
def rSs (l : List V1) (k : List ByteArray → List V1 → OR) : OR := match l with | .one (.fr (.ss x)) :: l => k x l | _ => none
def rBs (l : List V1) (k : List UInt8 → List V1 → OR) : OR := match l with | .one (.fr (.bs x)) :: l => k x l | _ => none
def rTerm (l : List V1) (k : T → List V1 → OR) : OR := match l with | .agg [.int .i64 a, .int .i64 b, .fr (.ts x)] :: l => k (.mk a b x) l | _ => none
def rOwnT (j : Nat) (l : List V1) (k : Int → Int → List V1 → OR) : OR := match l with | .agg [.int .i64 a, .int .i64 b, .own i 0] :: l => cond (Nat.beq i j) (k a b l) none | _ => none
def rOwn (j : Nat) (l : List V1) (k : List V1 → OR) : OR := match l with | .one (.own i 0) :: l => cond (Nat.beq i j) (k l) none | _ => none
def rPtr (j : Nat) (l : List V1) (k : List V1 → OR) : OR := match l with | .one (.ptr i 0) :: l => cond (Nat.beq i j) (k l) none | _ => none
def nilV (l : List V1) (k : OR) : OR := match l with | [] => k | _ => none
def rSl (e : SK) (l : List V1) (k : SD → List V1 → OR) : OR :=
  match e with
  | .t => rTs l fun x l => k (.ts x) l
  | .i => rIs l fun x l => k (.is x) l
  | .ii => rIss l fun x l => k (.iss x) l
  | .s => rSs l fun x l => k (.ss x) l
  | .b => rBs l fun x l => k (.bs x) l
def objC (o : List AObj) (k : List SV → List AObj → OR) : OR := match o with | .cells l :: o => k l o | _ => none
def dropC (o : List AObj) (k : List AObj → OR) : OR := match o with | _ :: o => k o | _ => none
def arrTsC (e : TypeId) (o : List AObj) (k : List T → List AObj → OR) : OR := match o with | .arr e' (.ts x) 0 false :: o => cond (Nat.beq e e') (k x o) none | _ => none
def arrIsC (e : TypeId) (o : List AObj) (k : List Int → List AObj → OR) : OR := match o with | .arr e' (.is x) 0 false :: o => cond (Nat.beq e e') (k x o) none | _ => none
def arrIssC (e : TypeId) (o : List AObj) (k : List (List Int) → List AObj → OR) : OR := match o with | .arr e' (.iss x) 0 false :: o => cond (Nat.beq e e') (k x o) none | _ => none
def arrSsC (e : TypeId) (o : List AObj) (k : List ByteArray → List AObj → OR) : OR := match o with | .arr e' (.ss x) 0 false :: o => cond (Nat.beq e e') (k x o) none | _ => none
def arrBsC (e : TypeId) (o : List AObj) (k : List UInt8 → List AObj → OR) : OR := match o with | .arr e' (.bs x) 0 false :: o => cond (Nat.beq e e') (k x o) none | _ => none
def arrC (e : TypeId × SK) (o : List AObj) (k : SD → List AObj → OR) : OR :=
  match e.2 with
  | .t => arrTsC e.1 o fun x o => k (.ts x) o
  | .i => arrIsC e.1 o fun x o => k (.is x) o
  | .ii => arrIssC e.1 o fun x o => k (.iss x) o
  | .s => arrSsC e.1 o fun x o => k (.ss x) o
  | .b => arrBsC e.1 o fun x o => k (.bs x) o
def nilO (o : List AObj) (k : OR) : OR := match o with | [] => k | _ => none
/-- One cell like another, seen before a call. -/
def likeC (x : SV) (l : List SV) (k : SV → List SV → OR) : OR :=
  match x with
  | .int a _ => intC a l fun n l => k (.int a n) l
  | .bool _ => boolC l fun n l => k (.bool n) l
  | .str _ => strC l fun n l => k (.str n) l
  | .fr d => slC d.kind l fun d l => k (.fr d) l
  | .emp (some e) => slC e.2 l fun d l => k (.fr d) l
  | _ => anyC l fun l => k .any l
def likeL : List SV → List SV → (List SV → OR) → OR
  | [], l, k => nilC l (k [])
  | x :: xs, l, k => likeC x l fun y l => likeL xs l fun ys => k (y :: ys)
/-- The objects that were handed in come back. -/
def backO : List AObj → List AObj → (List AObj → List AObj → OR) → OR
  | [], o, k => k [] o
  | .cells x :: xs, o, k => objC o fun l o => likeL x l fun y => backO xs o fun ys o => k (.cells y :: ys) o
  | _ :: xs, o, k => dropC o fun o => backO xs o fun ys o => k (.dead :: ys) o
/-- A value of a type, out of what is handed back. c: the callee's number for the next new object; b: the number that it takes here. -/
def valT (P : Program) (own : Bool) (c b : Nat) (t : TypeId) (l : List V1) (o : List AObj) (k : V1 → List AObj → List V1 → List AObj → OR) : OR :=
  match P.underlying t with
  | some (.int a) => rInt a l fun n l => k (.one (.int a n)) [] l o
  | some .bool => rBool l fun n l => k (.one (.bool n)) [] l o
  | some .string => rStr l fun n l => k (.one (.str n)) [] l o
  | some (.slice _) => (match kindS P t with
    | some e => cond own (rOwn c l fun l => arrC e o fun d o => k (.one (.own b 0)) [.arr e.1 d 0 false] l o) (rSl e.2 l fun d l => k (.one (.fr d)) [] l o)
    | none => none)
  | some (.struct _) => (match kindE P t with
    | some .t => cond own (rOwnT c l fun x y l => arrTsC t o fun d o => k (.agg [.int .i64 x, .int .i64 y, .own b 0]) [.arr t (.ts d) 0 false] l o)
        (rTerm l fun x l => k (.agg [.int .i64 x.k, .int .i64 x.n, .fr (.ts x.kids)]) [] l o)
    | _ => none)
  | some (.pointer e) => rPtr c l fun l => objC o fun y o => (match zeroS P e with
    | some z => likeL z y fun y => k (.one (.ptr b 0)) [.cells y] l o
    | none => none)
  | _ => none
def valsT (P : Program) (own : Bool) : List TypeId → Nat → Nat → List V1 → List AObj → (List V1 → List AObj → OR) → OR
  | [], _, _, l, o, k => nilV l (nilO o (k [] []))
  | t :: ts, c, b, l, o, k => valT P own c b t l o fun v n l o => valsT P own ts (c + n.length) (b + n.length) l o fun vs ns => k (v :: vs) (n ++ ns)

/-! Calls. -/
/-- What is said of functions: which hand back slices of their own; which is bytealg.IndexByteString. -/
structure Dec where
  own : FuncId → Bool
  ib : FuncId → Bool
abbrev Callee := FuncId → List V1 → List AObj → OR
def tupV : List V1 → AV
  | [x] => .v x
  | l => .tup l
/-- The objects that were handed in, under their old numbers. -/
def backH : List Nat → List AObj → List AObj → List AObj
  | j :: js, o :: os, h => backH js os (h.set j o)
  | _, _, h => h
/-- New objects, from number b on. -/
def putO (b : Nat) (os h : List AObj) : List AObj := backH (List.range' b os.length) os h
/-- How many new objects values of types bring. -/
def news (P : Program) (own : Bool) : List TypeId → Nat
  | [] => 0
  | t :: ts => (match P.underlying t with
    | some (.pointer _) => 1
    | some (.slice _) => cond own 1 0
    | some (.struct _) => cond own 1 0
    | _ => 0) + news P own ts
def sealVs (h : List AObj) : List V1 → (List V1 → List AObj → OR) → OR
  | [], k => k [] h
  | .one .any :: l, k => sealVs h l fun vs h => k (.one .any :: vs) h
  | .one x :: l, k => sealS h x fun x h => sealVs h l fun vs h => k (.one x :: vs) h
  | .agg c :: l, k => sealL h c fun c h => sealVs h l fun vs h => k (.agg c :: vs) h
def v1L : List AV → Option (List V1)
  | [] => some []
  | .v x :: l => (v1L l).map (x :: ·)
  | .tup _ :: _ => none
def nodupB : List Nat → Bool
  | [] => true
  | j :: l => !hasN j l && nodupB l
/-- Numbers of objects, each once. -/
def okJs (js : List Nat) (n : Nat) : Bool := nodupB js && js.all fun j => Nat.blt j n
/-- rm: how many new objects there is room for. -/
def callGo (P : Program) (F : Callee) (ow : Bool) (f : FuncId) (tys : List TypeId) (sl rm : Nat) (k : AV → List AObj → OR) (args : List V1) (h : List AObj) : OR :=
  let js := reach h 64 (args.flatMap refsV) []
  cond (okJs js sl) (let hh := selH js h
    (F f (args.map (renV js)) hh).bind fun r => backO hh r.2 fun os o => valsT P ow tys js.length sl r.1 o fun vs ns =>
      cond (Nat.ble ns.length rm) (k (tupV vs) (putO sl ns (backH js os h))) none) none
def callK (P : Program) (F : Callee) (D : Dec) (f : FuncId) (args : List V1) (h : List AObj) (sl rm : Nat) (k : AV → List AObj → OR) : OR :=
  match P.funcs[f]? with
  | none => none
  | some fn => cond (callB P f) (cond (D.own f) (callGo P F true f fn.resultTypes.toList sl rm k args h) (sealVs h args (callGo P F false f fn.resultTypes.toList sl rm k))) none
def evBuiltin (P : Program) (b : Builtin) (args : List AV) (tys : List TypeId) (h : List AObj) (sl : Nat) (k : AV → List AObj → OR) : OR :=
  match b, args, tys with
  | .len, [x], [t] => evLen P t x h fun v => k (.v (.one v)) h
  | .append, [x, y], [t, t'] => cond (Nat.beq t t') (evAppend P t x y h sl fun v h => k (.v (.one v)) h) none
  | .max, [x, y], _ => evMax true x y fun v => k (.v (.one v)) h
  | .min, [x, y], _ => evMax false x y fun v => k (.v (.one v)) h
  | _, _, _ => none
def natIx : Nat → List (Nat × Operand) → Bool
  | _, [] => true
  | n, p :: l => Nat.beq p.1 n && natIx (n + 1) l
def placesT (P : Program) (t : TypeId) : Option (List (Nat × Nat)) := match P.underlying t with
  | some (.struct fs) => fs.toList.mapM fun f => (P.info? f.type).map fun i => (f.offset, i.size)
  | _ => none
/-- The cells of a struct, its parts put in. -/
def buildS (pl : List (Nat × Nat)) : List SV → List (Nat × AV) → Option (List SV)
  | z, [] => some z
  | z, p :: l => pl[p.1]?.bind fun o => p.2.cs.bind fun c => cond (Nat.beq c.length o.2 && Nat.ble (o.1 + o.2) z.length) (buildS pl (putS z o.1 c) l) none
def evBuild (P : Program) (t : TypeId) (ps : List (Nat × AV)) (k : AV → OR) : OR :=
  (placesT P t).bind fun pl => (zeroS P t).bind fun z => (buildS pl z ps).bind fun c => k (.v (.agg c))
/-- How many new objects an operation may bring. -/
def nObj (P : Program) (D : Dec) (o : Oper) : Nat :=
  match o.op with
  | .alloc _ | .box .. | .buildSlice .. | .makeSlice .. => 1
  | .call c => (match c.callee with
    | .builtin .append => 1
    | .value (.func f) => (match P.funcs[f]? with | some fn => news P (D.own f) fn.resultTypes.toList | none => 0)
    | _ => 0)
  | _ => 0

/-- One operation. sl: the number that a new object takes. -/
def evOp (P : Program) (F : Callee) (D : Dec) (o : Oper) (ρ : Operand → AV) (h : List AObj) (sl : Nat) (k : AV → List AObj → OR) : OR :=
  match o.op with
  | .move x => k (retype P o.type (ρ x)) h
  | .assign x => k (retype P o.type (ρ x)) h
  | .pick c a b => (match ρ c with | .v (.one (.bool t)) => cond t (k (ρ a) h) (k (ρ b) h) | _ => none)
  | .alloc e => (zeroS P e).bind fun z => k (.v (.one (.ptr sl 0))) (h.set sl (.cells z))
  | .box e x => (ρ x).cs.bind fun c => k (.v (.one (.ptr sl 0))) (h.set sl (.cells c))
  | .build t ps => evBuild P t (ps.toList.map fun p => (p.1, ρ p.2)) fun v => k v h
  | .buildSlice t n ps => (match kindS P t with
    | some e => cond (natIx 0 ps.toList && (Nat.beq ps.toList.length n && Nat.ble n 4194304))
      ((csL (ps.toList.map fun p => ρ p.2)).bind fun cs => elemsOf e.2 h cs e.2.nil fun d h => k (.v (.one (.own sl 0))) (h.set sl (.arr e.1 d 0 false))) none
    | none => none)
  | .load t x => evLoad P t (ρ x) h fun v => k v h
  | .store t x y => evStore P t (ρ x) (ρ y) h fun h => k anyV h
  | .nilCheck x => evNil h (ρ x) fun v => k (.v (.one v)) h
  | .binOp op t x y _ => evBin P op t (ρ x) (ρ y) fun v => k (.v (.one v)) h
  | .unOp op t x => evUn op (ρ x) fun v => k (.v (.one v)) h
  | .convert t t' x => evConv P t t' (ρ x) h fun v => k (.v (.one v)) h
  | .makeFunc fn first caps => (match fn, first.toList with
    | .func f, [] => (capsOf h (caps.toList.map ρ)).bind fun l => k (.v (.one (.fn f l))) h
    | _, _ => none)
  | .makeSlice t x y => evMake P t (ρ x) (ρ y) h sl fun v h => k (.v (.one v)) h
  | .slice t x lo hi mx => evSlice P t (ρ x) (lo.map ρ) (hi.map ρ) (mx.map ρ) h fun v h => k (.v (.one v)) h
  | .fieldAddr t x i => (fieldOff P t i).bind fun d => evField h d (ρ x) fun v => k (.v (.one v)) h
  | .indexAddr t x i => evIndexAddr P t (ρ x) (ρ i) h fun v => k (.v (.one v)) h
  | .index t x i => evIndex P t (ρ x) (ρ i) fun v => k (.v (.one v)) h
  | .extract x i => evExtract (ρ x) i fun v => k v h
  | .call c => (match c.callee with
    | .builtin b => evBuiltin P b (c.args.toList.map ρ) c.argTypes.toList h sl k
    | .value (.func f) => cond (D.ib f) (match c.args.toList.map ρ with
        | [.v (.one (.str a)), .v (.one (.int .u8 n))] => cond (decide (0 ≤ n) && decide (n ≤ 255)) (k (.v (.one (.int .i64 (idxB a (UInt8.ofNat n.toNat))))) h) none
        | _ => none) ((v1L (c.args.toList.map ρ)).bind fun l => callK P F D f l h sl (nObj P D o) k)
    | .value x => (match ρ x with
      | .v (.one (.fn f l)) => (v1L (c.args.toList.map ρ)).bind fun vs => callK P F D f (vs ++ l.map fun j => .one (.ptr j 0)) h sl (nObj P D o) k
      | _ => none)
    | _ => none)
  | _ => none
/-! Regions. -/
def boolV (b : Bool) : AV := .v (.one (.bool b))
/-- What an operation that was not carried out leaves. -/
def undV : AV := .tup []
/-- Is an operation carried out? In each way what its guard yielded is known. -/
def wantK (ops : List Oper) (s : AS) (g : Option (Nat × Bool)) (yes no : AS → OR) : OR :=
  match g with
  | none => yes s
  | some (j, want) => (match ops[j]?.bind (·.dst) with
    | some d => (match s.tmps.getD d anyV with
      | .v (.one (.bool b)) => cond b (cond want (yes (s.put (some d) (boolV true))) (no (s.put (some d) (boolV true))))
          (cond want (no (s.put (some d) (boolV false))) (yes (s.put (some d) (boolV false))))
      | .tup [] => no s
      | _ => none)
    | none => none)
/-- What two ways that are both open come to, if to the same. -/
noncomputable def same (a b : OR) : OR := by classical exact if a = b then a else none
theorem same_self (a : OR) : same a a = a := by unfold same; exact if_pos rfl
theorem same_out {a b : OR} {r : List V1 × List AObj} (h : same a b = some r) : a = some r ∧ b = some r := by
  unfold same at h
  split at h
  · rename_i e; subst e; exact ⟨h, h⟩
  · cases h
/-- Is a slice asked whether it is nil? Its length. -/
def nilQ (P : Program) (o : Oper) (ρ : Operand → AV) : Option Nat :=
  match o.op with
  | .binOp .eql t x (.const (.slice none 0 0)) _ => (match kindS P t, ρ x with
    | some _, .v (.one (.fr d)) => some d.len
    | _, _ => none)
  | _ => none
/-- A region in the order of its text. -/
noncomputable def evOps (P : Program) (F : Callee) (D : Dec) (ops : List Oper) : List Oper → Nat → AS → (AS → OR) → OR
  | [], _, s, k => k s
  | o :: l, b, s, k => wantK ops s o.guard
      (fun s => match nilQ P o s.ev with
        | some m => cond (Nat.beq m 0)
            (same (evOps P F D ops l (b + nObj P D o) (s.put o.dst (boolV true)) k) (evOps P F D ops l (b + nObj P D o) (s.put o.dst (boolV false)) k))
            (evOps P F D ops l (b + nObj P D o) (s.put o.dst (boolV false)) k)
        | none => evOp P F D o s.ev s.heap b fun v h => evOps P F D ops l (b + nObj P D o) ({ s with heap := h }.put o.dst v) k)
      (fun s => evOps P F D ops l (b + nObj P D o) (s.put o.dst undV) k)
def room (P : Program) (D : Dec) : List Oper → Nat
  | [] => 0
  | o :: l => nObj P D o + room P D l
def grow (n : Nat) (s : AS) : AS := { s with heap := s.heap ++ List.replicate n .dead }
/-- What an operation has to do with: a memory of these objects alone. -/
def onlyH (js : List Nat) : Nat → List AObj → List AObj
  | _, [] => []
  | i, o :: h => cond (hasN i js) o .dead :: onlyH js (i + 1) h
/-- The memory h, but at the numbers js as in h'. -/
def mixH (js : List Nat) : Nat → List AObj → List AObj → List AObj
  | i, o :: h, o' :: h' => cond (hasN i js) o' o :: mixH js (i + 1) h h'
  | _, h, _ => h
/-- An operation that was carried out: its number; what it looked at; what it may have turned. -/
structure Done where
  i : Nat
  fp : List Nat
  wr : List Nat
def meets (a b : List Nat) : Bool := a.any fun x => hasN x b
/-- Which operations stand ahead of the i-th: its list, from the lists of the ones ahead. -/
def ahead (acc : List (List Nat)) (o : Oper) : List Nat :=
  o.after.toList.flatMap fun e => cond (Region.binds .any e) (e.on :: acc.getD e.on []) []
def ancL : List Oper → List (List Nat) → List (List Nat)
  | [], acc => acc
  | o :: l, acc => ancL l (acc ++ [ahead acc o])
/-- The numbers that an operation looks at: its operands and its guard. -/
def looksT (ops : List Oper) (o : Oper) : List Nat :=
  (o.op.operands.toList.flatMap fun x => match x with | .tmp t => [t] | _ => []) ++
  (match o.guard with
   | some (g, _) => (match ops[g]?.bind (·.dst) with | some d => [d] | none => [])
   | none => [])
def dstL (o : Oper) : List Nat := match o.dst with | some d => [d] | none => []
def apartT (ops : List Oper) (x y : Oper) : Bool := !meets (dstL x) (looksT ops y) && (!meets (dstL x) (dstL y) && !meets (dstL y) (looksT ops x))
def plainB (o : Oper) : Bool := match o.op with | .select .. => false | _ => true
def edgesB (an : List (List Nat)) (i : Nat) (o : Oper) : Bool :=
  (o.after.toList.all fun e => cond (Region.binds .any e) (Nat.blt e.on i) true) &&
  (an.getD i []).all fun a => o.after.toList.any fun e => Region.binds .any e && (Nat.beq a e.on || hasN a (an.getD e.on []))
def earlierB (ops : List Oper) (anc : List Nat) (i : Nat) (o : Oper) : List Oper → Nat → Bool
  | [], _ => true
  | x :: l, k => cond (Nat.blt k i) ((hasN k anc || apartT ops x o) && earlierB ops anc i o l (k + 1)) true
/-- May the operations be taken in any order, as far as their numbers go? -/
def drawB (ops : List Oper) (an : List (List Nat)) : List Oper → Nat → Bool
  | [], _ => true
  | o :: l, i => plainB o && (edgesB an i o && (earlierB ops (an.getD i []) i o ops 0 && drawB ops an l (i + 1)))
def okDone (anc : List Nat) (fp wr : List Nat) (d : Done) : Bool := hasN d.i anc || (!meets d.wr fp && !meets wr d.fp)
def writes (o : Oper) (fp : List Nat) (b n : Nat) : List Nat :=
  (match o.op with
  | .store .. => fp
  | .buildSlice .. => fp
  | .slice .. => fp
  | .call c => (match c.callee with | .builtin .append => fp | .builtin _ => [] | _ => fp)
  | _ => []) ++ List.range' b n
/-- Do the objects fp speak of no others? -/
def closB (h : List AObj) (fp rf : List Nat) : Bool := rf.all (hasN · fp) && fp.all fun j => (refsO h[j]?).all (hasN · fp)
def refsOf (s : AS) (o : Oper) : List Nat := o.op.operands.toList.flatMap fun x => refsA (s.ev x)
/-- Operations that look at no memory. -/
def lightB (o : Oper) : Bool := match o.op with
  | .move _ => true
  | .assign _ => true
  | .pick .. => true
  | .binOp .. => true
  | .unOp .. => true
  | .build .. => true
  | .index .. => true
  | .extract .. => true
  | _ => false
def evDr (P : Program) (F : Callee) (D : Dec) (ops : List Oper) (an : List (List Nat)) : List Oper → Nat → List Done → Nat → AS → (AS → OR) → OR
  | [], _, _, _, s, k => k s
  | o :: l, i, ds, b, s, k =>
    wantK ops s o.guard
      (fun s => cond (lightB o) (evOp P F D o s.ev [] 0 fun v _ => cond ((refsA v).all (hasN · (refsOf s o))) (evDr P F D ops an l (i + 1) ds (b + nObj P D o) (s.put o.dst v) k) none)
       (let n := nObj P D o
       let rf := refsOf s o
       let fp0 := reach s.heap 64 rf []
       let fp := fp0 ++ List.range' b n
       let wr := writes o fp b n
       cond (closB s.heap fp rf && (fp0.all (Nat.blt · b) && ds.all (okDone (an.getD i []) fp wr))) (evOp P F D o s.ev (onlyH fp 0 s.heap) b fun v h =>
         cond (closB h fp (refsA v)) (evDr P F D ops an l (i + 1) (⟨i, fp, wr⟩ :: ds) (b + n) ({ s with heap := mixH wr 0 s.heap h }.put o.dst v) k) none) none))
      (fun s => evDr P F D ops an l (i + 1) ds (b + nObj P D o) (s.put o.dst undV) k)

/-! Loops: what is known ahead of a round, in one form. -/
def maskT (live : List Nat) : Nat → List AV → List AV
  | _, [] => []
  | i, v :: l => cond (hasN i live) v anyV :: maskT live (i + 1) l
def ownS (b : Nat) : SV → SV × List AObj
  | .emp (some e) => (.own b 0, [.arr e.1 e.2.nil 0 false])
  | x => (x, [])
def ownL (b : Nat) : List SV → List SV × List AObj
  | [] => ([], [])
  | x :: l => let (x, o) := ownS b x; let (l, o') := ownL (b + o.length) l; (x :: l, o ++ o')
def ownA (b : Nat) : AV → AV × List AObj
  | .v (.one x) => let (x, o) := ownS b x; (.v (.one x), o)
  | .v (.agg l) => let (l, o) := ownL b l; (.v (.agg l), o)
  | x => (x, [])
def ownTs (b : Nat) : List AV → List AV × List AObj
  | [] => ([], [])
  | x :: l => let (x, o) := ownA b x; let (l, o') := ownTs (b + o.length) l; (x :: l, o ++ o')
def ownH (b : Nat) : List AObj → List AObj × List AObj
  | [] => ([], [])
  | .cells c :: l => let (c, o) := ownL b c; let (l, o') := ownH (b + o.length) l; (.cells c :: l, o ++ o')
  | x :: l => let (l, o) := ownH b l; (x :: l, o)
def ver0S (h : List AObj) : SV → SV
  | .own j v => (match h[j]? with
    | some (.arr _ _ ver _) => cond (Nat.beq v ver) (.own j 0) .any
    | _ => .any)
  | .op .. => .any
  | x => x
def ver0A (h : List AObj) : AV → AV
  | .v (.one x) => .v (.one (ver0S h x))
  | .v (.agg l) => .v (.agg (l.map (ver0S h)))
  | .tup l => anyV
def ver0O (h : List AObj) : AObj → AObj
  | .cells l => .cells (l.map (ver0S h))
  | .arr e d _ z => .arr e d 0 z
  | .dead => .dead
def sameL : List Nat → List Nat → Bool
  | [], [] => true
  | a :: l, b :: m => Nat.beq a b && sameL l m
  | _, _ => false
/-- The objects of the call's own that are still spoken of, numbered anew; m were handed in. -/
def gc (m : Nat) (s : AS) : AS :=
  let js := reach s.heap 64 (((List.range m).flatMap fun j => refsO s.heap[j]?) ++ s.tmps.flatMap refsA) (List.range m)
  cond (okJs js s.heap.length && sameL (js.take m) (List.range m)) ⟨s.tmps.map (renA js), selH js s.heap⟩ s
def ownAll (s : AS) : AS :=
  let (t, o) := ownTs s.heap.length s.tmps
  let (h, o') := ownH (s.heap.length + o.length) s.heap
  ⟨t, h ++ (o ++ o')⟩
def ver0 (s : AS) : AS := ⟨s.tmps.map (ver0A s.heap), s.heap.map (ver0O s.heap)⟩
def atHead (m : Nat) (live : Option (List Nat)) (s : AS) : AS :=
  match live with
  | some live => ver0 (gc m (ownAll (gc m { s with tmps := maskT live 0 s.tmps })))
  | none => s

/-- The slices in local variables are frozen, from the j-th object on. -/
def sealH : Nat → Nat → List AObj → (List AObj → OR) → OR
  | 0, _, h, k => k h
  | n + 1, j, h, k => (match h[j]? with
    | some (.cells c) => sealL h c fun c h => sealH n (j + 1) (h.set j (.cells c)) k
    | _ => sealH n (j + 1) h k)

/-! Code. -/
inductive Ex | normal | exit (id : Nat) | ret
abbrev Kont := Ex → AS → OR
def evL (body : AS → Kont → OR) (nm : AS → AS) : Nat → AS → Kont → OR
  | 0, _, _ => none
  | n + 1, s, k => body s fun e s => match e with
    | .normal => evL body nm n (nm s) k
    | e => k e s
structure Env where
  P : Program
  F : Callee
  D : Dec
  /-- fuel for loops -/
  n : Nat
  /-- how many objects were handed in -/
  m : Nat
  live : Nat → Option (List Nat)
def thenK (E : Env) (evb : AS → Kont → OR) (k : Kont) : Kont := fun e s => match e with
  | .normal => evb s k
  | e => k e s
def blockK (id : Nat) (k : Kont) : Kont := fun e s => match e with
  | .exit i => cond (Nat.beq i id) (k .normal s) (k (.exit i) s)
  | e => k e s
/-- A condition is known from now on. -/
def AS.know (s : AS) (c : Operand) (b : Bool) : AS :=
  match c with
  | .tmp t => s.put (some t) (boolV b)
  | _ => s
/-- A region that draws its order. -/
def drawC (E : Env) (ops : List Oper) (s : AS) (k : Kont) : OR :=
  cond (drawB ops (ancL ops []) ops 0) (evDr E.P E.F E.D ops (ancL ops []) ops 0 [] s.heap.length (grow (room E.P E.D ops) s) fun s => k .normal s) none
noncomputable def evC (E : Env) : Nat → Code → AS → Kont → OR
  | _, .skip, s, k => k .normal s
  | _, .region id ops draw, s, k => cond draw
      (match E.live (1000000 + id) with
        | some _ => sealH s.heap.length 0 s.heap fun h => drawC E ops.toList ⟨s.tmps, h⟩ k
        | none => drawC E ops.toList s k)
      (evOps E.P E.F E.D ops.toList ops.toList s.heap.length (grow (room E.P E.D ops.toList) s) fun s => k .normal s)
  | i, .seq a b, s, k => evC E i a s (thenK E (evC E i b) k)
  | i, .cond c a b, s, k => (match s.ev c with
    | .v (.one (.bool t)) => cond t (evC E i a (s.know c true) k) (evC E i b (s.know c false) k)
    | _ => none)
  | _, .block id b, s, k => evC E id b s (blockK id k)
  | i, .loop b, s, k => evL (evC E i b) (atHead E.m (E.live i)) E.n (atHead E.m (E.live i) s) k
  | _, .exit id, s, k => k (.exit id) s
  | _, .ret, s, k => k .ret s
  | _, _, _, _ => none
def finK (P : Program) (own : Bool) (fn : Func) (m : Nat) : Kont := fun e s => match e with
  | .normal => finish P own fn m s
  | .ret => finish P own fn m s
  | .exit _ => none
/-- What is said of the functions of a program beside their code. -/
structure Say where
  D : Dec
  live : FuncId → Nat → Option (List Nat)
  prim : FuncId → Option (List V1 → OR)
noncomputable def evF (P : Program) (S : Say) : Nat → Callee
  | 0, _, _, _ => none
  | n + 1, f, args, h => match S.prim f with
    | some g => (match h with | [] => g args | _ => none)
    | none => (match P.funcs[f]? with
      | some fn => (match fn.body with
        | some c => evC ⟨P, evF P S n, S.D, n, h.length, S.live f⟩ 0 c ⟨args.map .v ++ List.replicate (fn.ntmps - args.length) anyV, h⟩ (finK P (S.D.own f) fn h.length)
        | none => none)
      | none => none)
end Go.Ab
