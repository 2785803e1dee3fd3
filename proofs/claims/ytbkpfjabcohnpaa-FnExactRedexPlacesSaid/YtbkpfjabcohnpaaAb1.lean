/- Abstract values, and the abstract run of code over them: terms as trees, slices as lists, local variables and growing slices as objects with numbers. No program in sight. -/
import Derived.Test.YtbkpfjabcohnpaaGl
set_option linter.unusedVariables false
set_option linter.unusedSimpArgs false
namespace Go.Ab
open Go Go.Dk

/-- What the elements of a slice are. -/
inductive SK | t | i | ii | s | b
def SK.beq : SK → SK → Bool
  | .t, .t | .i, .i | .ii, .ii | .s, .s | .b, .b => true
  | _, _ => false
/-- What a slice holds. -/
inductive SD
  | ts (l : List T) | is (l : List Int) | iss (l : List (List Int)) | ss (l : List ByteArray) | bs (l : List UInt8)
/-- One element. -/
inductive SE
  | t (t : T) | i (n : Int) | ii (l : List Int) | s (x : ByteArray) | b (c : UInt8)
def SK.size : SK → Nat | .t => 3 | _ => 1
def SK.nil : SK → SD | .t => .ts [] | .i => .is [] | .ii => .iss [] | .s => .ss [] | .b => .bs []
def SD.kind : SD → SK | .ts _ => .t | .is _ => .i | .iss _ => .ii | .ss _ => .s | .bs _ => .b
def SD.len : SD → Nat | .ts l => l.length | .is l => l.length | .iss l => l.length | .ss l => l.length | .bs l => l.length

/-- A value of one cell. -/
inductive SV
  | int (k : IntKind) (n : Int)
  | bool (b : Bool)
  | str (x : ByteArray)
  | emp (k : Option (TypeId × SK))
  | fr (d : SD)
  | own (j v : Nat)
  | ptr (j off : Nat)
  | ep (e : SE) (off : Nat)
  | op (j v i off : Nat)
  | fn (f : FuncId) (caps : List Nat)
  | nilp
  | any
inductive V1 | one (s : SV) | agg (l : List SV)
inductive AV | v (x : V1) | tup (l : List V1)
inductive AObj | cells (l : List SV) | arr (e : TypeId) (d : SD) (ver : Nat) (fz : Bool) | dead
structure AS where
  tmps : List AV
  heap : List AObj
abbrev OR := Option (List V1 × List AObj)
def anyV : AV := .v (.one .any)

def V1.cells : V1 → List SV | .one s => [s] | .agg l => l
/-- The cells of a value; of one of which nothing is known, none. -/
def AV.cs : AV → Option (List SV)
  | .v (.one .any) => none
  | .v (.one s) => some [s]
  | .v (.agg l) => some l
  | .tup _ => none
def csL : List AV → Option (List (List SV))
  | [] => some []
  | v :: l => v.cs.bind fun c => (csL l).map (c :: ·)
def SE.cells : SE → List SV
  | .t x => [.int .i64 x.k, .int .i64 x.n, .fr (.ts x.kids)]
  | .i n => [.int .i64 n]
  | .ii l => [.fr (.is l)]
  | .s x => [.str x]
  | .b c => [.int .u8 (c.toNat : Int)]
def SD.get (d : SD) (i : Nat) (k : SE → OR) : OR :=
  match d with
  | .ts l => l[i]?.bind fun x => k (.t x)
  | .is l => l[i]?.bind fun x => k (.i x)
  | .iss l => l[i]?.bind fun x => k (.ii x)
  | .ss l => l[i]?.bind fun x => k (.s x)
  | .bs l => l[i]?.bind fun x => k (.b x)
def SD.app (d e : SD) (k : SD → OR) : OR :=
  match d, e with
  | .ts l, .ts m => k (.ts (l ++ m))
  | .is l, .is m => k (.is (l ++ m))
  | .iss l, .iss m => k (.iss (l ++ m))
  | .ss l, .ss m => k (.ss (l ++ m))
  | .bs l, .bs m => k (.bs (l ++ m))
  | _, _ => none
def SD.set (d : SD) (i : Nat) (e : SE) (k : SD → OR) : OR :=
  match d, e with
  | .ts l, .t x => k (.ts (l.set i x))
  | .is l, .i x => k (.is (l.set i x))
  | .iss l, .ii x => k (.iss (l.set i x))
  | .ss l, .s x => k (.ss (l.set i x))
  | .bs l, .b x => k (.bs (l.set i x))
  | _, _ => none
def SD.sub (d : SD) (lo hi : Nat) : SD :=
  match d with
  | .ts l => .ts ((l.take hi).drop lo)
  | .is l => .is ((l.take hi).drop lo)
  | .iss l => .iss ((l.take hi).drop lo)
  | .ss l => .ss ((l.take hi).drop lo)
  | .bs l => .bs ((l.take hi).drop lo)

/-! Types. -/
def kind0 (P : Program) (e : TypeId) : Option SK :=
  match P.underlying e with
  | some (.struct _) => (match structT P e with | some 3 => some .t | _ => none)
  | some (.int .i64) => some .i
  | some (.int .u8) => some .b
  | some .string => some .s
  | some (.slice e') => (match P.underlying e' with | some (.int .i64) => some .ii | _ => none)
  | _ => none
def sizeOk (P : Program) (e : TypeId) (k : SK) : Bool := match P.info? e with
  | some i => (match i.zero with
    | some z => Nat.beq i.size k.size && (Nat.beq z.cells.size k.size && Nat.ble i.bytes 64)
    | none => false)
  | none => false
def kindE (P : Program) (e : TypeId) : Option SK := (kind0 P e).bind fun k => cond (sizeOk P e k) (some k) none
/-- The elements of a slice type: their type and kind. -/
def kindS (P : Program) (t : TypeId) : Option (TypeId × SK) := match P.underlying t with | some (.slice e) => (kindE P e).map fun k => (e, k) | _ => none
/-- The kinds of the slices among the leaves of a type. -/
def leaves (P : Program) : Nat → TypeId → List (Option (TypeId × SK))
  | 0, _ => [none]
  | n + 1, t => match P.underlying t with
    | some (.struct fs) => fs.toList.flatMap fun f => leaves P n f.type
    | some (.slice _) => [kindS P t]
    | _ => [none]
def svOf (k : Option (TypeId × SK)) : Value → SV
  | .int k n => .int k n
  | .bool b => .bool b
  | .string s => .str s
  | .slice none 0 0 => .emp k
  | .pointer none => .nilp
  | _ => .any
def svsOf : List (Option (TypeId × SK)) → List Value → List SV
  | k :: ks, v :: vs => svOf k v :: svsOf ks vs
  | [], v :: vs => svOf none v :: svsOf [] vs
  | _, [] => []
def AV.ofValue : Value → AV
  | .agg cs => cond (cs.toList.all oneB) (.v (.agg (svsOf [] cs.toList))) anyV
  | .tuple _ => anyV
  | x => .v (.one (svOf none x))
/-- A nil slice whose type is told. -/
def retype (P : Program) (t : TypeId) : AV → AV
  | .v (.one (.emp none)) => .v (.one (.emp (kindS P t)))
  | .v (.agg l) => .v (.agg (go (leaves P 4 t) l))
  | x => x
where go : List (Option (TypeId × SK)) → List SV → List SV
  | k :: ks, .emp none :: l => .emp k :: go ks l
  | _ :: ks, x :: l => x :: go ks l
  | [], l => l
  | _, [] => []
def zeroS (P : Program) (t : TypeId) : Option (List SV) := (zeroB P t).bind fun z => cond (z.all oneB) (some (svsOf (leaves P 4 t) z)) none

def AS.ev (s : AS) : Operand → AV
  | .tmp t => s.tmps.getD t anyV
  | .const v => AV.ofValue v
  | .func f => .v (.one (.fn f []))
  | .global _ => anyV
def AS.put (s : AS) (d : Option Tmp) (v : AV) : AS :=
  match d with
  | some d => { s with tmps := s.tmps.set d v }
  | none => s
/-! What slices hold, read in a memory. -/
/-- Read a slice. -/
def readS (h : List AObj) (x : SV) (k : SD → OR) : OR :=
  match x with
  | .fr d => k d
  | .emp (some e) => k e.2.nil
  | .own j v => (match h[j]? with
    | some (.arr _ d ver _) => cond (Nat.beq v ver) (k d) none
    | _ => none)
  | _ => none
/-- A slice is frozen: it is read from now on, and turned no more. -/
def sealS (h : List AObj) (x : SV) (k : SV → List AObj → OR) : OR :=
  match x with
  | .own j v => (match h[j]? with
    | some (.arr e d ver _) => cond (Nat.beq v ver) (k (.fr d) (h.set j (.arr e d ver true))) none
    | _ => none)
  | .emp (some e) => k (.fr e.2.nil) h
  | x => k x h
def sealL (h : List AObj) : List SV → (List SV → List AObj → OR) → OR
  | [], k => k [] h
  | x :: l, k => sealS h x fun x' h' => sealL h' l fun l' h'' => k (x' :: l') h''
/-- Cells, frozen, as an element. -/
def elemOf (e : SK) (l : List SV) (k : SE → OR) : OR :=
  match e, l with
  | .t, [.int .i64 a, .int .i64 b, .fr (.ts l)] => k (.t (.mk a b l))
  | .i, [.int .i64 a] => k (.i a)
  | .ii, [.fr (.is l)] => k (.ii l)
  | .s, [.str x] => k (.s x)
  | .b, [.int .u8 n] => cond (decide (0 ≤ n) && decide (n ≤ 255)) (k (.b (UInt8.ofNat n.toNat))) none
  | _, _ => none
def SD.snoc (d : SD) (e : SE) : Option SD :=
  match d, e with
  | .ts l, .t x => some (.ts (l ++ [x]))
  | .is l, .i x => some (.is (l ++ [x]))
  | .iss l, .ii x => some (.iss (l ++ [x]))
  | .ss l, .s x => some (.ss (l ++ [x]))
  | .bs l, .b x => some (.bs (l ++ [x]))
  | _, _ => none
def elemsOf (e : SK) (h : List AObj) : List (List SV) → SD → (SD → List AObj → OR) → OR
  | [], d, k => k d h
  | c :: cs, d, k => sealL h c fun c' h' => elemOf e c' fun x => (d.snoc x).bind fun d' => elemsOf e h' cs d' k

/-! Loads and stores. -/
def packK (P : Program) (t : TypeId) (l : List SV) (k : AV → OR) : OR :=
  match scalarT P t with
  | true => (match l with | c :: _ => k (.v (.one c)) | [] => none)
  | false => (match structT P t with
    | some n => cond (Nat.ble n l.length) (k (.v (.agg (l.take n)))) none
    | none => none)
def evLoad (P : Program) (t : TypeId) (x : AV) (h : List AObj) (k : AV → OR) : OR :=
  match x with
  | .v (.one (.ptr j off)) => (match h[j]? with
    | some (.cells l) => packK P t (l.drop off) k
    | _ => none)
  | .v (.one (.ep e off)) => packK P t (e.cells.drop off) k
  | .v (.one (.op j v i off)) => (match h[j]? with
    | some (.arr _ d ver _) => cond (Nat.beq v ver) (d.get i fun e => packK P t (e.cells.drop off) k) none
    | _ => none)
  | _ => none
def putS (l : List SV) (off : Nat) : List SV → List SV
  | [] => l
  | c :: cs => putS (l.set off c) (off + 1) cs
def evStore (P : Program) (t : TypeId) (x y : AV) (h : List AObj) (k : List AObj → OR) : OR :=
  match (P.info? t).map (·.size) with
  | some m => y.cs.bind fun yc => (match x with
    | .v (.one (.ptr j off)) => (match h[j]? with
      | some (.cells l) => cond (Nat.beq m yc.length && Nat.ble (off + m) l.length) (k (h.set j (.cells (putS l off yc)))) none
      | _ => none)
    | .v (.one (.op j v i 0)) => sealL h yc fun c h => (match h[j]? with
      | some (.arr e d ver false) => cond (Nat.beq v ver && Nat.beq m d.kind.size) (elemOf d.kind c fun x => d.set i x fun d' => k (h.set j (.arr e d' ver false))) none
      | _ => none)
    | _ => none)
  | none => none

/-! Operators. -/
def ikEq (a b : IntKind) : Bool := decide (a = b)
def evInt (op : BinOp) (ka : IntKind) (a b : Int) (k : SV → OR) : OR :=
  match op with
  | .add => k (.int ka (ka.wrap (a + b)))
  | .sub => k (.int ka (ka.wrap (a - b)))
  | .mul => k (.int ka (ka.wrap (a * b)))
  | .quo => cond (decide (b = 0)) none (k (.int ka (ka.wrap (a.tdiv b))))
  | .rem => cond (decide (b = 0)) none (k (.int ka (a.tmod b)))
  | .xor => k (.int ka (ka.wrap (BitVec.ofInt ka.bits a ^^^ BitVec.ofInt ka.bits b).toNat))
  | .eql => k (.bool (decide (a = b)))
  | .neq => k (.bool (!decide (a = b)))
  | .lss => k (.bool (decide (a < b)))
  | .leq => k (.bool (decide (a ≤ b)))
  | .gtr => k (.bool (decide (b < a)))
  | .geq => k (.bool (decide (b ≤ a)))
  | _ => none
def evStr (op : BinOp) (a b : ByteArray) (k : SV → OR) : OR :=
  match op with
  | .add => cond (decide (a.size + b.size ≤ 9223372036854775807)) (k (.str (a ++ b))) none
  | .eql => k (.bool (a.toList == b.toList))
  | .neq => k (.bool (!(a.toList == b.toList)))
  | .gtr => k (.bool (!(Op.bytesLess a.toList b.toList || a.toList == b.toList)))
  | _ => none
def evBin (P : Program) (op : BinOp) (t : TypeId) (x y : AV) (k : SV → OR) : OR :=
  match x, y with
  | .v (.one (.int ka a)), .v (.one (.int kb b)) => cond (ikEq ka kb) (evInt op ka a b k) none
  | .v (.one (.str a)), .v (.one (.str b)) => evStr op a b k
  | .v (.one (.bool a)), .v (.one (.bool b)) => (match P.underlying t with
    | some .bool => (match op with
      | .eql => k (.bool (decide (a = b)))
      | .neq => k (.bool (!decide (a = b)))
      | _ => none)
    | _ => none)
  | _, _ => none
def evUn (op : UnOp) (x : AV) (k : SV → OR) : OR :=
  match op, x with
  | .not, .v (.one (.bool b)) => k (.bool (!b))
  | .neg, .v (.one (.int ka n)) => k (.int ka (ka.wrap (0 - n)))
  | _, _ => none
def evConv (P : Program) (t t' : TypeId) (x : AV) (h : List AObj) (k : SV → OR) : OR :=
  match x with
  | .v (.one (.int _ n)) => (match P.underlying t, P.underlying t' with
    | some (.int _), some (.int ka) => k (.int ka (ka.wrap n))
    | _, _ => none)
  | .v (.one x) => (match kindS P t, P.underlying t' with
    | some (_, .b), some .string => readS h x fun d => (match d with | .bs l => k (.str ⟨l.toArray⟩) | _ => none)
    | _, _ => none)
  | _ => none
def optInt (x : AV) (k : Int → OR) : OR := match x with | .v (.one (.int .i64 n)) => k n | _ => none
def inB (lo hi n : Int) : Bool := decide (0 ≤ lo) && (decide (lo ≤ hi) && decide (hi ≤ n))
/-- x[lo:hi:mx]. -/
def evSlice (P : Program) (t : TypeId) (x : AV) (lo hi mx : Option AV) (h : List AObj) (k : SV → List AObj → OR) : OR :=
  match mx with
  | some mx => cond (kindS P t).isSome (optInt mx fun m => (match hi, lo with
    | some hi, none => optInt hi fun n => cond (decide (m = 0) && decide (n = 0)) (match x with
      | .v (.one (.fr d)) => cond (kindEq (kindS P t) d.kind) (k (.emp (kindS P t)) h) none
      | .v (.one (.own j v)) => (match h[j]? with
        | some (.arr _ d ver _) => cond (Nat.beq v ver && kindEq (kindS P t) d.kind) (k (.emp (kindS P t)) h) none
        | _ => none)
      | .v (.one (.emp e)) => (k (.emp (kindS P t)) h)
      | _ => none) none
    | some hi, some lo => optInt hi fun n => optInt lo fun l => cond (decide (m = 0) && (decide (n = 0) && decide (l = 0))) (match x with
      | .v (.one (.fr d)) => cond (kindEq (kindS P t) d.kind) (k (.emp (kindS P t)) h) none
      | .v (.one (.own j v)) => (match h[j]? with
        | some (.arr _ d ver _) => cond (Nat.beq v ver && kindEq (kindS P t) d.kind) (k (.emp (kindS P t)) h) none
        | _ => none)
      | .v (.one (.emp e)) => (k (.emp (kindS P t)) h)
      | _ => none) none
    | _, _ => none)) none
  | none => (match x with
    | .v (.one (.str a)) => (match P.underlying t with
      | some .string => bounds lo hi a.size fun l n => k (.str (a.extract l.toNat n.toNat)) h
      | _ => none)
    | .v (.one x) => (match kindS P t with
      | some e => sealS h x fun x' h' => (match x' with
        | .fr d => cond (SK.beq e.2 d.kind) (bounds lo hi d.len fun l n => k (.fr (d.sub l.toNat n.toNat)) h') none
        | _ => none)
      | none => none)
    | _ => none)
where
  kindEq : Option (TypeId × SK) → SK → Bool
    | some a, c => SK.beq a.2 c
    | none, _ => false
  bounds (lo hi : Option AV) (n : Nat) (k : Int → Int → OR) : OR :=
    match lo, hi with
    | none, none => k 0 n
    | some lo, none => optInt lo fun l => cond (inB l n n) (k l n) none
    | none, some hi => optInt hi fun m => cond (inB 0 m n) (k 0 m) none
    | some lo, some hi => optInt lo fun l => optInt hi fun m => cond (inB l m n) (k l m) none
def evIndexAddr (P : Program) (t : TypeId) (x y : AV) (h : List AObj) (k : SV → OR) : OR :=
  match kindS P t with
  | none => none
  | some e => optInt y fun i => cond (decide (0 ≤ i)) (match x with
    | .v (.one (.fr d)) => cond (SK.beq e.2 d.kind) (d.get i.toNat fun x => k (.ep x 0)) none
    | .v (.one (.own j v)) => (match h[j]? with
      | some (.arr _ d ver _) => cond (Nat.beq v ver && SK.beq e.2 d.kind) (cond (decide (i < d.len)) (k (.op j v i.toNat 0)) none) none
      | _ => none)
    | _ => none) none
def evLen (P : Program) (t : TypeId) (x : AV) (h : List AObj) (k : SV → OR) : OR :=
  match x with
  | .v (.one (.str a)) => (match P.underlying t with | some .string => k (.int .i64 (a.size : Int)) | _ => none)
  | .v (.one (.emp _)) => (match kindS P t with | some _ => k (.int .i64 0) | none => none)
  | .v (.one x) => (match kindS P t with | some _ => readS h x fun d => k (.int .i64 (d.len : Int)) | none => none)
  | _ => none
/-- What a slice of a call's own may come to hold. -/
def roomB (n : Nat) : Bool := decide (n ≤ 1099511627776)
def evAppend (P : Program) (t : TypeId) (x y : AV) (h : List AObj) (sl : Nat) (k : SV → List AObj → OR) : OR :=
  match kindS P t with
  | none => none
  | some e => (match y with
    | .v (.one y) => readS h y fun d' => cond (SK.beq e.2 d'.kind) (match x with
      | .v (.one (.own j v)) => (match h[j]? with
        | some (.arr e' d ver false) => cond (Nat.beq v ver && Nat.beq e.1 e') (d.app d' fun d'' => cond (roomB d''.len) (k (.own j (ver + 1)) (h.set j (.arr e' d'' (ver + 1) false))) none) none
        | _ => none)
      | .v (.one (.emp _)) => cond (roomB d'.len) (k (.own sl 0) (h.set sl (.arr e.1 d' 0 false))) none
      | _ => none) none
    | _ => none)
/-- Is the zero of a type what it is taken for? -/
def zeroIs (P : Program) (e : TypeId) (k : SK) : Bool :=
  match zeroB P e, k with
  | some [.int .i64 a, .int .i64 b, .slice none 0 0], .t => decide (a = 0) && decide (b = 0)
  | some [.int .i64 a], .i => decide (a = 0)
  | some [.string x], .s => decide (x = ByteArray.empty)
  | some [.int .u8 a], .b => decide (a = 0)
  | _, _ => false
def zeros (n : Nat) : SK → Option SD
  | .t => some (.ts (List.replicate n (.mk 0 0 [])))
  | .i => some (.is (List.replicate n 0))
  | .ii => none
  | .s => some (.ss (List.replicate n ByteArray.empty))
  | .b => some (.bs (List.replicate n 0))
def evMake (P : Program) (t : TypeId) (x y : AV) (h : List AObj) (sl : Nat) (k : SV → List AObj → OR) : OR :=
  optInt x fun n => optInt y fun m => cond (decide (n = m) && (decide (0 ≤ n) && decide (n ≤ 4194304))) (match kindS P t with
    | some e => cond (zeroIs P e.1 e.2) ((zeros n.toNat e.2).bind fun d => k (.own sl 0) (h.set sl (.arr e.1 d 0 false))) none
    | none => none) none
def liveC (h : List AObj) (j : Nat) : Bool := match h[j]? with | some (.cells _) => true | _ => false
def liveA (h : List AObj) (j v : Nat) : Bool := match h[j]? with | some (.arr _ _ ver _) => Nat.beq v ver | _ => false
/-- The address d cells further on. -/
def evField (h : List AObj) (d : Nat) (v : AV) (k : SV → OR) : OR :=
  match v with
  | .v (.one (.ptr j o)) => cond (liveC h j) (k (.ptr j (o + d))) none
  | .v (.one (.ep e o)) => k (.ep e (o + d))
  | .v (.one (.op j v n o)) => cond (liveA h j v) (k (.op j v n (o + d))) none
  | _ => none
def evNil (h : List AObj) (v : AV) (k : SV → OR) : OR :=
  match v with
  | .v (.one (.ptr j o)) => cond (liveC h j) (k (.ptr j o)) none
  | .v (.one (.ep e o)) => k (.ep e o)
  | .v (.one (.op j v n o)) => cond (liveA h j v) (k (.op j v n o)) none
  | .v (.one (.fn f l)) => k (.fn f l)
  | _ => none
def evIndex (P : Program) (t : TypeId) (x y : AV) (k : SV → OR) : OR :=
  match x with
  | .v (.one (.str a)) => optInt y fun n => cond (decide (0 ≤ n) && decide (n < a.size)) (match P.underlying t with
      | some .string => k (.int .u8 ((byteAt a n.toNat).toNat : Int))
      | _ => none) none
  | _ => none
def evExtract (x : AV) (i : Nat) (k : AV → OR) : OR := match x with | .tup l => l[i]?.bind fun x => k (.v x) | _ => none
def evMax (mx : Bool) (x y : AV) (k : SV → OR) : OR :=
  match x, y with
  | .v (.one (.int a x)), .v (.one (.int b y)) => cond (ikEq a b) (k (.int a (cond mx (max x y) (min x y)))) none
  | _, _ => none
/-- The objects that closures stand on. -/
def capsOf (h : List AObj) : List AV → Option (List Nat)
  | [] => some []
  | .v (.one (.ptr j 0)) :: l => cond (liveC h j) ((capsOf h l).map (j :: ·)) none
  | _ => none
end Go.Ab
namespace Go.Ab
open Go Go.Dk

/-! Which objects a value stands on; a memory of some objects alone. -/
def refsS : SV → List Nat
  | .own j _ => [j]
  | .ptr j _ => [j]
  | .op j _ _ _ => [j]
  | .fn _ l => l
  | _ => []
def refsO : Option AObj → List Nat
  | some (.cells l) => l.flatMap refsS
  | _ => []
def hasN (j : Nat) : List Nat → Bool
  | [] => false
  | i :: l => Nat.beq j i || hasN j l
def reach (h : List AObj) : Nat → List Nat → List Nat → List Nat
  | 0, _, seen => seen
  | _, [], seen => seen
  | n + 1, j :: todo, seen => cond (hasN j seen) (reach h n todo seen) (reach h n (refsO h[j]? ++ todo) (seen ++ [j]))
def idx (j : Nat) : List Nat → Option Nat
  | [] => none
  | i :: l => cond (Nat.beq j i) (some 0) ((idx j l).map (· + 1))
def idxs (js : List Nat) : List Nat → Option (List Nat)
  | [] => some []
  | j :: l => (idx j js).bind fun i => (idxs js l).map (i :: ·)
def renS (js : List Nat) : SV → SV
  | .own j v => (match idx j js with | some i => .own i v | none => .any)
  | .ptr j o => (match idx j js with | some i => .ptr i o | none => .any)
  | .op j v i o => (match idx j js with | some j => .op j v i o | none => .any)
  | .fn f l => (match idxs js l with | some l => .fn f l | none => .any)
  | x => x
def renV (js : List Nat) : V1 → V1 | .one s => .one (renS js s) | .agg l => .agg (l.map (renS js))
def renA (js : List Nat) : AV → AV | .v x => .v (renV js x) | .tup l => .tup (l.map (renV js))
def renO (js : List Nat) : AObj → AObj | .cells l => .cells (l.map (renS js)) | o => o
def selH (js : List Nat) (h : List AObj) : List AObj := js.map fun j => renO js (h.getD j .dead)
def refsV : V1 → List Nat | .one s => refsS s | .agg l => l.flatMap refsS
def refsA : AV → List Nat | .v x => refsV x | .tup l => l.flatMap refsV

/-! What a function hands back. -/
/-- A cell that speaks of no object. -/
def clean : SV → SV
  | .own _ _ => .any
  | .ptr _ _ => .any
  | .op _ _ _ _ => .any
  | .fn _ _ => .any
  | x => x
/-- Cells as they are handed back: frozen, or as objects of their own, numbered from b on. -/
def outC (own : Bool) : List SV → List AObj → Nat → (List SV → List AObj → List AObj → OR) → OR
  | [], h, _, k => k [] h []
  | .own j v :: l, h, b, k => (match h[j]? with
    | some (.arr e d ver fz) => cond (Nat.beq v ver) (cond own
        (cond fz none (outC own l (h.set j .dead) (b + 1) fun cs h os => k (.own b 0 :: cs) h (.arr e d 0 false :: os)))
        (outC own l (h.set j (.arr e d ver true)) b fun cs h os => k (.fr d :: cs) h os)) none
    | _ => none)
  | .emp (some e) :: l, h, b, k => cond own
      (outC own l h (b + 1) fun cs h os => k (.own b 0 :: cs) h (.arr e.1 e.2.nil 0 false :: os))
      (outC own l h b fun cs h os => k (.fr e.2.nil :: cs) h os)
  | .ptr j 0 :: l, h, b, k => (match h[j]? with
    | some (.cells c) => sealL h c fun c h => outC own l (h.set j .dead) (b + 1) fun cs h os => k (.ptr b 0 :: cs) h (.cells (c.map clean) :: os)
    | _ => none)
  | .int a n :: l, h, b, k => outC own l h b fun cs h os => k (.int a n :: cs) h os
  | .bool x :: l, h, b, k => outC own l h b fun cs h os => k (.bool x :: cs) h os
  | .str x :: l, h, b, k => outC own l h b fun cs h os => k (.str x :: cs) h os
  | .fr x :: l, h, b, k => outC own l h b fun cs h os => k (.fr x :: cs) h os
  | _ :: l, h, b, k => outC own l h b fun cs h os => k (.any :: cs) h os
/-- The objects that were handed in, as they are handed back. -/
def outO (m : Nat) : Nat → List AObj → (List AObj → OR) → OR
  | 0, h, k => k []
  | n + 1, h, k => (match h[m - (n + 1)]? with
    | some (.cells c) => sealL h c fun c h => outO m n h fun os => k (.cells (c.map clean) :: os)
    | _ => outO m n h fun os => k (.dead :: os))
def outVs (own : Bool) : List V1 → List AObj → Nat → (List V1 → List AObj → List AObj → OR) → OR
  | [], h, _, k => k [] h []
  | .one .any :: l, h, b, k => outVs own l h b fun vs h os => k (.one .any :: vs) h os
  | .one x :: l, h, b, k => outC own [x] h b fun c h os => (match c with
    | [x] => outVs own l h (b + os.length) fun vs h os' => k (.one x :: vs) h (os ++ os')
    | _ => none)
  | .agg c :: l, h, b, k => outC own c h b fun c h os => outVs own l h (b + os.length) fun vs h os' => k (.agg c :: vs) h (os ++ os')
def resC (P : Program) (s : AS) : List ResultVar → (List V1 → OR) → OR
  | [], k => k []
  | .tmp t :: l, k => (match s.tmps.getD t anyV with
    | .v x => resC P s l fun vs => k (x :: vs)
    | _ => none)
  | .cell a t :: l, k => evLoad P t (s.tmps.getD a anyV) s.heap fun v => (match v with
    | .v x => resC P s l fun vs => k (x :: vs)
    | _ => none)
def finish (P : Program) (own : Bool) (fn : Func) (m : Nat) (s : AS) : OR :=
  cond (Nat.ble m s.heap.length) (resC P s fn.results.toList fun vs => outVs own vs s.heap m fun vs h os => outO m m h fun ps => some (vs, ps ++ os)) none

/-! What a call hands back, taken apart by what is expected. -/
def intC (a : IntKind) (l : List SV) (k : Int → List SV → OR) : OR := match l with | .int b n :: l => cond (ikEq a b) (k n l) none | _ => none
def boolC (l : List SV) (k : Bool → List SV → OR) : OR := match l with | .bool b :: l => k b l | _ => none
def strC (l : List SV) (k : ByteArray → List SV → OR) : OR := match l with | .str x :: l => k x l | _ => none
def tsC (l : List SV) (k : List T → List SV → OR) : OR := match l with | .fr (.ts x) :: l => k x l | _ => none
def isC (l : List SV) (k : List Int → List SV → OR) : OR := match l with | .fr (.is x) :: l => k x l | _ => none
def issC (l : List SV) (k : List (List Int) → List SV → OR) : OR := match l with | .fr (.iss x) :: l => k x l | _ => none
def ssC (l : List SV) (k : List ByteArray → List SV → OR) : OR := match l with | .fr (.ss x) :: l => k x l | _ => none
def bsC (l : List SV) (k : List UInt8 → List SV → OR) : OR := match l with | .fr (.bs x) :: l => k x l | _ => none
def anyC (l : List SV) (k : List SV → OR) : OR := match l with | _ :: l => k l | _ => none
def nilC (l : List SV) (k : OR) : OR := match l with | [] => k | _ => none
def slC (e : SK) (l : List SV) (k : SD → List SV → OR) : OR :=
  match e with
  | .t => tsC l fun x l => k (.ts x) l
  | .i => isC l fun x l => k (.is x) l
  | .ii => issC l fun x l => k (.iss x) l
  | .s => ssC l fun x l => k (.ss x) l
  | .b => bsC l fun x l => k (.bs x) l
def rInt (a : IntKind) (l : List V1) (k : Int → List V1 → OR) : OR := match l with | .one (.int b n) :: l => cond (ikEq a b) (k n l) none | _ => none
def rBool (l : List V1) (k : Bool → List V1 → OR) : OR := match l with | .one (.bool b) :: l => k b l | _ => none
def rStr (l : List V1) (k : ByteArray → List V1 → OR) : OR := match l with | .one (.str x) :: l => k x l | _ => none
def rTs (l : List V1) (k : List T → List V1 → OR) : OR := match l with | .one (.fr (.ts x)) :: l => k x l | _ => none
def rIs (l : List V1) (k : List Int → List V1 → OR) : OR := match l with | .one (.fr (.is x)) :: l => k x l | _ => none
def rIss (l : List V1) (k : List (List Int) → List V1 → OR) : OR := match l with | .one (.fr (.iss x)) :: l => k x l | _ => none
def rSs (l : List V1) (k : List ByteArray → List V1 → OR) : OR := match l with | .one (.fr (.ss x)) :: l => k x l | _ => none
def rBs (l : List V1) (k : List UInt8 → List V1 → OR) : OR := match l with | .one (.fr (.bs x)) :: l => k x l | _ => none
def rTerm (l : List V1) (k : T → List V1 → OR) : OR := match l with | .agg [.int .i64 a, .int .i64 b, .fr (.ts x)] :: l => k (.mk a b x) l | _ => none
def rOwnT (j : Nat) (l : List V1) (k : Int → Int → List V1 → OR) : OR := match l with | .agg [.int .i64 a, .int .i64 b, .own i 0] :: l => cond (Nat.beq i j) (k a b l) none | _ => none
def rOwn (j : Nat) (l : List V1) (k : List V1 → OR) : OR := match l with | .one (.own i 0) :: l => cond (Nat.beq i j) (k l) none | _ => none
def rPtr (j : Nat) (l : List V1) (k : List V1 → OR) : OR := match l with | .one (.ptr i 0) :: l => cond (Nat.beq i j) (k l) none | _ => none
def nilV (l : List V1) (k : OR) : OR := match l with | [] => k | _ => none
def rSl (e : SK) (l : List V1) (k : SD → List V1 → OR) : OR :=
  match e with
  | .t => rTs l fun x l => k (.ts x) l
  | .i => rIs l fun x l => k (.is x) l
  | .ii => rIss l fun x l => k (.iss x) l
  | .s => rSs l fun x l => k (.ss x) l
  | .b => rBs l fun x l => k (.bs x) l
def objC (o : List AObj) (k : List SV → List AObj → OR) : OR := match o with | .cells l :: o => k l o | _ => none
def dropC (o : List AObj) (k : List AObj → OR) : OR := match o with | _ :: o => k o | _ => none
def arrTsC (e : TypeId) (o : List AObj) (k : List T → List AObj → OR) : OR := match o with | .arr e' (.ts x) 0 false :: o => cond (Nat.beq e e') (k x o) none | _ => none
def arrIsC (e : TypeId) (o : List AObj) (k : List Int → List AObj → OR) : OR := match o with | .arr e' (.is x) 0 false :: o => cond (Nat.beq e e') (k x o) none | _ => none
def arrIssC (e : TypeId) (o : List AObj) (k : List (List Int) → List AObj → OR) : OR := match o with | .arr e' (.iss x) 0 false :: o => cond (Nat.beq e e') (k x o) none | _ => none
def arrSsC (e : TypeId) (o : List AObj) (k : List ByteArray → List AObj → OR) : OR := match o with | .arr e' (.ss x) 0 false :: o => cond (Nat.beq e e') (k x o) none | _ => none
def arrBsC (e : TypeId) (o : List AObj) (k : List UInt8 → List AObj → OR) : OR := match o with | .arr e' (.bs x) 0 false :: o => cond (Nat.beq e e') (k x o) none | _ => none
def arrC (e : TypeId × SK) (o : List AObj) (k : SD → List AObj → OR) : OR :=
  match e.2 with
  | .t => arrTsC e.1 o fun x o => k (.ts x) o
  | .i => arrIsC e.1 o fun x o => k (.is x) o
  | .ii => arrIssC e.1 o fun x o => k (.iss x) o
  | .s => arrSsC e.1 o fun x o => k (.ss x) o
  | .b => arrBsC e.1 o fun x o => k (.bs x) o
def nilO (o : List AObj) (k : OR) : OR := match o with | [] => k | _ => none
/-- One cell like another, seen before a call. -/
def likeC (x : SV) (l : List SV) (k : SV → List SV → OR) : OR :=
  match x with
  | .int a _ => intC a l fun n l => k (.int a n) l
  | .bool _ => boolC l fun n l => k (.bool n) l
  | .str _ => strC l fun n l => k (.str n) l
  | .fr d => slC d.kind l fun d l => k (.fr d) l
  | .emp (some e) => slC e.2 l fun d l => k (.fr d) l
  | _ => anyC l fun l => k .any l
def likeL : List SV → List SV → (List SV → OR) → OR
  | [], l, k => nilC l (k [])
  | x :: xs, l, k => likeC x l fun y l => likeL xs l fun ys => k (y :: ys)
/-- The objects that were handed in come back. -/
def backO : List AObj → List AObj → (List AObj → List AObj → OR) → OR
  | [], o, k => k [] o
  | .cells x :: xs, o, k => objC o fun l o => likeL x l fun y => backO xs o fun ys o => k (.cells y :: ys) o
  | _ :: xs, o, k => dropC o fun o => backO xs o fun ys o => k (.dead :: ys) o
/-- A value of a type, out of what is handed back. c: the callee's number for the next new object; b: the number that it takes here. -/
def valT (P : Program) (own : Bool) (c b : Nat) (t : TypeId) (l : List V1) (o : List AObj) (k : V1 → List AObj → List V1 → List AObj → OR) : OR :=
  match P.underlying t with
  | some (.int a) => rInt a l fun n l => k (.one (.int a n)) [] l o
  | some .bool => rBool l fun n l => k (.one (.bool n)) [] l o
  | some .string => rStr l fun n l => k (.one (.str n)) [] l o
  | some (.slice _) => (match kindS P t with
    | some e => cond own (rOwn c l fun l => arrC e o fun d o => k (.one (.own b 0)) [.arr e.1 d 0 false] l o) (rSl e.2 l fun d l => k (.one (.fr d)) [] l o)
    | none => none)
  | some (.struct _) => (match kindE P t with
    | some .t => cond own (rOwnT c l fun x y l => arrTsC t o fun d o => k (.agg [.int .i64 x, .int .i64 y, .own b 0]) [.arr t (.ts d) 0 false] l o)
        (rTerm l fun x l => k (.agg [.int .i64 x.k, .int .i64 x.n, .fr (.ts x.kids)]) [] l o)
    | _ => none)
  | some (.pointer e) => rPtr c l fun l => objC o fun y o => (match zeroS P e with
    | some z => likeL z y fun y => k (.one (.ptr b 0)) [.cells y] l o
    | none => none)
  | _ => none
def valsT (P : Program) (own : Bool) : List TypeId → Nat → Nat → List V1 → List AObj → (List V1 → List AObj → OR) → OR
  | [], _, _, l, o, k => nilV l (nilO o (k [] []))
  | t :: ts, c, b, l, o, k => valT P own c b t l o fun v n l o => valsT P own ts (c + n.length) (b + n.length) l o fun vs ns => k (v :: vs) (n ++ ns)

/-! Calls. -/
/-- What is said of functions: which hand back slices of their own; which is bytealg.IndexByteString. -/
structure Dec where
  own : FuncId → Bool
  ib : FuncId → Bool
abbrev Callee := FuncId → List V1 → List AObj → OR
def tupV : List V1 → AV
  | [x] => .v x
  | l => .tup l
/-- The objects that were handed in, under their old numbers. -/
def backH : List Nat → List AObj → List AObj → List AObj
  | j :: js, o :: os, h => backH js os (h.set j o)
  | _, _, h => h
/-- New objects, from number b on. -/
def putO (b : Nat) (os h : List AObj) : List AObj := backH (List.range' b os.length) os h
/-- How many new objects values of types bring. -/
def news (P : Program) (own : Bool) : List TypeId → Nat
  | [] => 0
  | t :: ts => (match P.underlying t with
    | some (.pointer _) => 1
    | some (.slice _) => cond own 1 0
    | some (.struct _) => cond own 1 0
    | _ => 0) + news P own ts
def sealVs (h : List AObj) : List V1 → (List V1 → List AObj → OR) → OR
  | [], k => k [] h
  | .one .any :: l, k => sealVs h l fun vs h => k (.one .any :: vs) h
  | .one x :: l, k => sealS h x fun x h => sealVs h l fun vs h => k (.one x :: vs) h
  | .agg c :: l, k => sealL h c fun c h => sealVs h l fun vs h => k (.agg c :: vs) h
def v1L : List AV → Option (List V1)
  | [] => some []
  | .v x :: l => (v1L l).map (x :: ·)
  | .tup _ :: _ => none
def nodupB : List Nat → Bool
  | [] => true
  | j :: l => !hasN j l && nodupB l
/-- Numbers of objects, each once. -/
def okJs (js : List Nat) (n : Nat) : Bool := nodupB js && js.all fun j => Nat.blt j n
/-- rm: how many new objects there is room for. -/
def callGo (P : Program) (F : Callee) (ow : Bool) (f : FuncId) (tys : List TypeId) (sl rm : Nat) (k : AV → List AObj → OR) (args : List V1) (h : List AObj) : OR :=
  let js := reach h 64 (args.flatMap refsV) []
  cond (okJs js sl) (let hh := selH js h
    (F f (args.map (renV js)) hh).bind fun r => backO hh r.2 fun os o => valsT P ow tys js.length sl r.1 o fun vs ns =>
      cond (Nat.ble ns.length rm) (k (tupV vs) (putO sl ns (backH js os h))) none) none
def callK (P : Program) (F : Callee) (D : Dec) (f : FuncId) (args : List V1) (h : List AObj) (sl rm : Nat) (k : AV → List AObj → OR) : OR :=
  match P.funcs[f]? with
  | none => none
  | some fn => cond (callB P f) (cond (D.own f) (callGo P F true f fn.resultTypes.toList sl rm k args h) (sealVs h args (callGo P F false f fn.resultTypes.toList sl rm k))) none
def evBuiltin (P : Program) (b : Builtin) (args : List AV) (tys : List TypeId) (h : List AObj) (sl : Nat) (k : AV → List AObj → OR) : OR :=
  match b, args, tys with
  | .len, [x], [t] => evLen P t x h fun v => k (.v (.one v)) h
  | .append, [x, y], [t, t'] => cond (Nat.beq t t') (evAppend P t x y h sl fun v h => k (.v (.one v)) h) none
  | .max, [x, y], _ => evMax true x y fun v => k (.v (.one v)) h
  | .min, [x, y], _ => evMax false x y fun v => k (.v (.one v)) h
  | _, _, _ => none
def natIx : Nat → List (Nat × Operand) → Bool
  | _, [] => true
  | n, p :: l => Nat.beq p.1 n && natIx (n + 1) l
def placesT (P : Program) (t : TypeId) : Option (List (Nat × Nat)) := match P.underlying t with
  | some (.struct fs) => fs.toList.mapM fun f => (P.info? f.type).map fun i => (f.offset, i.size)
  | _ => none
/-- The cells of a struct, its parts put in. -/
def buildS (pl : List (Nat × Nat)) : List SV → List (Nat × AV) → Option (List SV)
  | z, [] => some z
  | z, p :: l => pl[p.1]?.bind fun o => p.2.cs.bind fun c => cond (Nat.beq c.length o.2 && Nat.ble (o.1 + o.2) z.length) (buildS pl (putS z o.1 c) l) none
def evBuild (P : Program) (t : TypeId) (ps : List (Nat × AV)) (k : AV → OR) : OR :=
  (placesT P t).bind fun pl => (zeroS P t).bind fun z => (buildS pl z ps).bind fun c => k (.v (.agg c))
/-- How many new objects an operation may bring. -/
def nObj (P : Program) (D : Dec) (o : Oper) : Nat :=
  match o.op with
  | .alloc _ | .box .. | .buildSlice .. | .makeSlice .. => 1
  | .call c => (match c.callee with
    | .builtin .append => 1
    | .value (.func f) => (match P.funcs[f]? with | some fn => news P (D.own f) fn.resultTypes.toList | none => 0)
    | _ => 0)
  | _ => 0

/-- One operation. sl: the number that a new object takes. -/
def evOp (P : Program) (F : Callee) (D : Dec) (o : Oper) (ρ : Operand → AV) (h : List AObj) (sl : Nat) (k : AV → List AObj → OR) : OR :=
  match o.op with
  | .move x => k (retype P o.type (ρ x)) h
  | .assign x => k (retype P o.type (ρ x)) h
  | .pick c a b => (match ρ c with | .v (.one (.bool t)) => cond t (k (ρ a) h) (k (ρ b) h) | _ => none)
  | .alloc e => (zeroS P e).bind fun z => k (.v (.one (.ptr sl 0))) (h.set sl (.cells z))
  | .box e x => (ρ x).cs.bind fun c => k (.v (.one (.ptr sl 0))) (h.set sl (.cells c))
  | .build t ps => evBuild P t (ps.toList.map fun p => (p.1, ρ p.2)) fun v => k v h
  | .buildSlice t n ps => (match kindS P t with
    | some e => cond (natIx 0 ps.toList && (Nat.beq ps.toList.length n && Nat.ble n 4194304))
      ((csL (ps.toList.map fun p => ρ p.2)).bind fun cs => elemsOf e.2 h cs e.2.nil fun d h => k (.v (.one (.own sl 0))) (h.set sl (.arr e.1 d 0 false))) none
    | none => none)
  | .load t x => evLoad P t (ρ x) h fun v => k v h
  | .store t x y => evStore P t (ρ x) (ρ y) h fun h => k anyV h
  | .nilCheck x => evNil h (ρ x) fun v => k (.v (.one v)) h
  | .binOp op t x y _ => evBin P op t (ρ x) (ρ y) fun v => k (.v (.one v)) h
  | .unOp op t x => evUn op (ρ x) fun v => k (.v (.one v)) h
  | .convert t t' x => evConv P t t' (ρ x) h fun v => k (.v (.one v)) h
  | .makeFunc fn first caps => (match fn, first.toList with
    | .func f, [] => (capsOf h (caps.toList.map ρ)).bind fun l => k (.v (.one (.fn f l))) h
    | _, _ => none)
  | .makeSlice t x y => evMake P t (ρ x) (ρ y) h sl fun v h => k (.v (.one v)) h
  | .slice t x lo hi mx => evSlice P t (ρ x) (lo.map ρ) (hi.map ρ) (mx.map ρ) h fun v h => k (.v (.one v)) h
  | .fieldAddr t x i => (fieldOff P t i).bind fun d => evField h d (ρ x) fun v => k (.v (.one v)) h
  | .indexAddr t x i => evIndexAddr P t (ρ x) (ρ i) h fun v => k (.v (.one v)) h
  | .index t x i => evIndex P t (ρ x) (ρ i) fun v => k (.v (.one v)) h
  | .extract x i => evExtract (ρ x) i fun v => k v h
  | .call c => (match c.callee with
    | .builtin b => evBuiltin P b (c.args.toList.map ρ) c.argTypes.toList h sl k
    | .value (.func f) => cond (D.ib f) (match c.args.toList.map ρ with
        | [.v (.one (.str a)), .v (.one (.int .u8 n))] => cond (decide (0 ≤ n) && decide (n ≤ 255)) (k (.v (.one (.int .i64 (idxB a (UInt8.ofNat n.toNat))))) h) none
        | _ => none) ((v1L (c.args.toList.map ρ)).bind fun l => callK P F D f l h sl (nObj P D o) k)
    | .value x => (match ρ x with
      | .v (.one (.fn f l)) => (v1L (c.args.toList.map ρ)).bind fun vs => callK P F D f (vs ++ l.map fun j => .one (.ptr j 0)) h sl (nObj P D o) k
      | _ => none)
    | _ => none)
  | _ => none
/-! Regions. -/
def boolV (b : Bool) : AV := .v (.one (.bool b))
/-- What an operation that was not carried out leaves. -/
def undV : AV := .tup []
/-- Is an operation carried out? In each way what its guard yielded is known. -/
def wantK (ops : List Oper) (s : AS) (g : Option (Nat × Bool)) (yes no : AS → OR) : OR :=
  match g with
  | none => yes s
  | some (j, want) => (match ops[j]?.bind (·.dst) with
    | some d => (match s.tmps.getD d anyV with
      | .v (.one (.bool b)) => cond b (cond want (yes (s.put (some d) (boolV true))) (no (s.put (some d) (boolV true))))
          (cond want (no (s.put (some d) (boolV false))) (yes (s.put (some d) (boolV false))))
      | .tup [] => no s
      | _ => none)
    | none => none)
/-- What two ways that are both open come to, if to the same. -/
noncomputable def same (a b : OR) : OR := by classical exact if a = b then a else none
theorem same_self (a : OR) : same a a = a := by unfold same; exact if_pos rfl
theorem same_out {a b : OR} {r : List V1 × List AObj} (h : same a b = some r) : a = some r ∧ b = some r := by
  unfold same at h
  split at h
  · rename_i e; subst e; exact ⟨h, h⟩
  · cases h
/-- Is a slice asked whether it is nil? Its length. -/
def nilQ (P : Program) (o : Oper) (ρ : Operand → AV) : Option Nat :=
  match o.op with
  | .binOp .eql t x (.const (.slice none 0 0)) _ => (match kindS P t, ρ x with
    | some _, .v (.one (.fr d)) => some d.len
    | _, _ => none)
  | _ => none
/-- A region in the order of its text. -/
noncomputable def evOps (P : Program) (F : Callee) (D : Dec) (ops : List Oper) : List Oper → Nat → AS → (AS → OR) → OR
  | [], _, s, k => k s
  | o :: l, b, s, k => wantK ops s o.guard
      (fun s => match nilQ P o s.ev with
        | some m => cond (Nat.beq m 0)
            (same (evOps P F D ops l (b + nObj P D o) (s.put o.dst (boolV true)) k) (evOps P F D ops l (b + nObj P D o) (s.put o.dst (boolV false)) k))
            (evOps P F D ops l (b + nObj P D o) (s.put o.dst (boolV false)) k)
        | none => evOp P F D o s.ev s.heap b fun v h => evOps P F D ops l (b + nObj P D o) ({ s with heap := h }.put o.dst v) k)
      (fun s => evOps P F D ops l (b + nObj P D o) (s.put o.dst undV) k)
def room (P : Program) (D : Dec) : List Oper → Nat
  | [] => 0
  | o :: l => nObj P D o + room P D l
def grow (n : Nat) (s : AS) : AS := { s with heap := s.heap ++ List.replicate n .dead }
/-- What an operation has to do with: a memory of these objects alone. -/
def onlyH (js : List Nat) : Nat → List AObj → List AObj
  | _, [] => []
  | i, o :: h => cond (hasN i js) o .dead :: onlyH js (i + 1) h
/-- The memory h, but at the numbers js as in h'. -/
def mixH (js : List Nat) : Nat → List AObj → List AObj → List AObj
  | i, o :: h, o' :: h' => cond (hasN i js) o' o :: mixH js (i + 1) h h'
  | _, h, _ => h
/-- An operation that was carried out: its number; what it looked at; what it may have turned. -/
structure Done where
  i : Nat
  fp : List Nat
  wr : List Nat
def meets (a b : List Nat) : Bool := a.any fun x => hasN x b
/-- Which operations stand ahead of the i-th: its list, from the lists of the ones ahead. -/
def ahead (acc : List (List Nat)) (o : Oper) : List Nat :=
  o.after.toList.flatMap fun e => cond (Region.binds .any e) (e.on :: acc.getD e.on []) []
def ancL : List Oper → List (List Nat) → List (List Nat)
  | [], acc => acc
  | o :: l, acc => ancL l (acc ++ [ahead acc o])
/-- The numbers that an operation looks at: its operands and its guard. -/
def looksT (ops : List Oper) (o : Oper) : List Nat :=
  (o.op.operands.toList.flatMap fun x => match x with | .tmp t => [t] | _ => []) ++
  (match o.guard with
   | some (g, _) => (match ops[g]?.bind (·.dst) with | some d => [d] | none => [])
   | none => [])
def dstL (o : Oper) : List Nat := match o.dst with | some d => [d] | none => []
def apartT (ops : List Oper) (x y : Oper) : Bool := !meets (dstL x) (looksT ops y) && (!meets (dstL x) (dstL y) && !meets (dstL y) (looksT ops x))
def plainB (o : Oper) : Bool := match o.op with | .select .. => false | _ => true
def edgesB (an : List (List Nat)) (i : Nat) (o : Oper) : Bool :=
  (o.after.toList.all fun e => cond (Region.binds .any e) (Nat.blt e.on i) true) &&
  (an.getD i []).all fun a => o.after.toList.any fun e => Region.binds .any e && (Nat.beq a e.on || hasN a (an.getD e.on []))
def earlierB (ops : List Oper) (anc : List Nat) (i : Nat) (o : Oper) : List Oper → Nat → Bool
  | [], _ => true
  | x :: l, k => cond (Nat.blt k i) ((hasN k anc || apartT ops x o) && earlierB ops anc i o l (k + 1)) true
/-- May the operations be taken in any order, as far as their numbers go? -/
def drawB (ops : List Oper) (an : List (List Nat)) : List Oper → Nat → Bool
  | [], _ => true
  | o :: l, i => plainB o && (edgesB an i o && (earlierB ops (an.getD i []) i o ops 0 && drawB ops an l (i + 1)))
def okDone (anc : List Nat) (fp wr : List Nat) (d : Done) : Bool := hasN d.i anc || (!meets d.wr fp && !meets wr d.fp)
def writes (o : Oper) (fp : List Nat) (b n : Nat) : List Nat :=
  (match o.op with
  | .store .. => fp
  | .buildSlice .. => fp
  | .slice .. => fp
  | .call c => (match c.callee with | .builtin .append => fp | .builtin _ => [] | _ => fp)
  | _ => []) ++ List.range' b n
/-- Do the objects fp speak of no others? -/
def closB (h : List AObj) (fp rf : List Nat) : Bool := rf.all (hasN · fp) && fp.all fun j => (refsO h[j]?).all (hasN · fp)
def refsOf (s : AS) (o : Oper) : List Nat := o.op.operands.toList.flatMap fun x => refsA (s.ev x)
/-- Operations that look at no memory. -/
def lightB (o : Oper) : Bool := match o.op with
  | .move _ => true
  | .assign _ => true
  | .pick .. => true
  | .binOp .. => true
  | .unOp .. => true
  | .build .. => true
  | .index .. => true
  | .extract .. => true
  | _ => false
def evDr (P : Program) (F : Callee) (D : Dec) (ops : List Oper) (an : List (List Nat)) : List Oper → Nat → List Done → Nat → AS → (AS → OR) → OR
  | [], _, _, _, s, k => k s
  | o :: l, i, ds, b, s, k =>
    wantK ops s o.guard
      (fun s => cond (lightB o) (evOp P F D o s.ev [] 0 fun v _ => cond ((refsA v).all (hasN · (refsOf s o))) (evDr P F D ops an l (i + 1) ds (b + nObj P D o) (s.put o.dst v) k) none)
       (let n := nObj P D o
       let rf := refsOf s o
       let fp0 := reach s.heap 64 rf []
       let fp := fp0 ++ List.range' b n
       let wr := writes o fp b n
       cond (closB s.heap fp rf && (fp0.all (Nat.blt · b) && ds.all (okDone (an.getD i []) fp wr))) (evOp P F D o s.ev (onlyH fp 0 s.heap) b fun v h =>
         cond (closB h fp (refsA v)) (evDr P F D ops an l (i + 1) (⟨i, fp, wr⟩ :: ds) (b + n) ({ s with heap := mixH wr 0 s.heap h }.put o.dst v) k) none) none))
      (fun s => evDr P F D ops an l (i + 1) ds (b + nObj P D o) (s.put o.dst undV) k)

/-! Loops: what is known ahead of a round, in one form. -/
def maskT (live : List Nat) : Nat → List AV → List AV
  | _, [] => []
  | i, v :: l => cond (hasN i live) v anyV :: maskT live (i + 1) l
def ownS (b : Nat) : SV → SV × List AObj
  | .emp (some e) => (.own b 0, [.arr e.1 e.2.nil 0 false])
  | x => (x, [])
def ownL (b : Nat) : List SV → List SV × List AObj
  | [] => ([], [])
  | x :: l => let (x, o) := ownS b x; let (l, o') := ownL (b + o.length) l; (x :: l, o ++ o')
def ownA (b : Nat) : AV → AV × List AObj
  | .v (.one x) => let (x, o) := ownS b x; (.v (.one x), o)
  | .v (.agg l) => let (l, o) := ownL b l; (.v (.agg l), o)
  | x => (x, [])
def ownTs (b : Nat) : List AV → List AV × List AObj
  | [] => ([], [])
  | x :: l => let (x, o) := ownA b x; let (l, o') := ownTs (b + o.length) l; (x :: l, o ++ o')
def ownH (b : Nat) : List AObj → List AObj × List AObj
  | [] => ([], [])
  | .cells c :: l => let (c, o) := ownL b c; let (l, o') := ownH (b + o.length) l; (.cells c :: l, o ++ o')
  | x :: l => let (l, o) := ownH b l; (x :: l, o)
def ver0S (h : List AObj) : SV → SV
  | .own j v => (match h[j]? with
    | some (.arr _ _ ver _) => cond (Nat.beq v ver) (.own j 0) .any
    | _ => .any)
  | .op .. => .any
  | x => x
def ver0A (h : List AObj) : AV → AV
  | .v (.one x) => .v (.one (ver0S h x))
  | .v (.agg l) => .v (.agg (l.map (ver0S h)))
  | .tup l => anyV
def ver0O (h : List AObj) : AObj → AObj
  | .cells l => .cells (l.map (ver0S h))
  | .arr e d _ z => .arr e d 0 z
  | .dead => .dead
def sameL : List Nat → List Nat → Bool
  | [], [] => true
  | a :: l, b :: m => Nat.beq a b && sameL l m
  | _, _ => false
/-- The objects of the call's own that are still spoken of, numbered anew; m were handed in. -/
def gc (m : Nat) (s : AS) : AS :=
  let js := reach s.heap 64 (((List.range m).flatMap fun j => refsO s.heap[j]?) ++ s.tmps.flatMap refsA) (List.range m)
  cond (okJs js s.heap.length && sameL (js.take m) (List.range m)) ⟨s.tmps.map (renA js), selH js s.heap⟩ s
def ownAll (s : AS) : AS :=
  let (t, o) := ownTs s.heap.length s.tmps
  let (h, o') := ownH (s.heap.length + o.length) s.heap
  ⟨t, h ++ (o ++ o')⟩
def ver0 (s : AS) : AS := ⟨s.tmps.map (ver0A s.heap), s.heap.map (ver0O s.heap)⟩
def atHead (m : Nat) (live : Option (List Nat)) (s : AS) : AS :=
  match live with
  | some live => ver0 (gc m (ownAll (gc m { s with tmps := maskT live 0 s.tmps })))
  | none => s

/-- The slices in local variables are frozen, from the j-th object on. -/
def sealH : Nat → Nat → List AObj → (List AObj → OR) → OR
  | 0, _, h, k => k h
  | n + 1, j, h, k => (match h[j]? with
    | some (.cells c) => sealL h c fun c h => sealH n (j + 1) (h.set j (.cells c)) k
    | _ => sealH n (j + 1) h k)

/-! Code. -/
inductive Ex | normal | exit (id : Nat) | ret
abbrev Kont := Ex → AS → OR
def evL (body : AS → Kont → OR) (nm : AS → AS) : Nat → AS → Kont → OR
  | 0, _, _ => none
  | n + 1, s, k => body s fun e s => match e with
    | .normal => evL body nm n (nm s) k
    | e => k e s
structure Env where
  P : Program
  F : Callee
  D : Dec
  /-- fuel for loops -/
  n : Nat
  /-- how many objects were handed in -/
  m : Nat
  live : Nat → Option (List Nat)
def thenK (E : Env) (evb : AS → Kont → OR) (k : Kont) : Kont := fun e s => match e with
  | .normal => evb s k
  | e => k e s
def blockK (id : Nat) (k : Kont) : Kont := fun e s => match e with
  | .exit i => cond (Nat.beq i id) (k .normal s) (k (.exit i) s)
  | e => k e s
/-- A condition is known from now on. -/
def AS.know (s : AS) (c : Operand) (b : Bool) : AS :=
  match c with
  | .tmp t => s.put (some t) (boolV b)
  | _ => s
/-- A region that draws its order. -/
def drawC (E : Env) (ops : List Oper) (s : AS) (k : Kont) : OR :=
  cond (drawB ops (ancL ops []) ops 0) (evDr E.P E.F E.D ops (ancL ops []) ops 0 [] s.heap.length (grow (room E.P E.D ops) s) fun s => k .normal s) none
noncomputable def evC (E : Env) : Nat → Code → AS → Kont → OR
  | _, .skip, s, k => k .normal s
  | _, .region id ops draw, s, k => cond draw
      (match E.live (1000000 + id) with
        | some _ => sealH s.heap.length 0 s.heap fun h => drawC E ops.toList ⟨s.tmps, h⟩ k
        | none => drawC E ops.toList s k)
      (evOps E.P E.F E.D ops.toList ops.toList s.heap.length (grow (room E.P E.D ops.toList) s) fun s => k .normal s)
  | i, .seq a b, s, k => evC E i a s (thenK E (evC E i b) k)
  | i, .cond c a b, s, k => (match s.ev c with
    | .v (.one (.bool t)) => cond t (evC E i a (s.know c true) k) (evC E i b (s.know c false) k)
    | _ => none)
  | _, .block id b, s, k => evC E id b s (blockK id k)
  | i, .loop b, s, k => evL (evC E i b) (atHead E.m (E.live i)) E.n (atHead E.m (E.live i) s) k
  | _, .exit id, s, k => k (.exit id) s
  | _, .ret, s, k => k .ret s
  | _, _, _, _ => none
def finK (P : Program) (own : Bool) (fn : Func) (m : Nat) : Kont := fun e s => match e with
  | .normal => finish P own fn m s
  | .ret => finish P own fn m s
  | .exit _ => none
/-- What is said of the functions of a program beside their code. -/
structure Say where
  D : Dec
  live : FuncId → Nat → Option (List Nat)
  prim : FuncId → Option (List V1 → OR)
noncomputable def evF (P : Program) (S : Say) : Nat → Callee
  | 0, _, _, _ => none
  | n + 1, f, args, h => match S.prim f with
    | some g => (match h with | [] => g args | _ => none)
    | none => (match P.funcs[f]? with
      | some fn => (match fn.body with
        | some c => evC ⟨P, evF P S n, S.D, n, h.length, S.live f⟩ 0 c ⟨args.map .v ++ List.replicate (fn.ntmps - args.length) anyV, h⟩ (finK P (S.D.own f) fn h.length)
        | none => none)
      | none => none)
end Go.Ab
namespace Go.Ab
open Go Go.Dk

def All2 {α β : Type} (R : α → β → Prop) (l : List α) (m : List β) : Prop := l.length = m.length ∧ ∀ (i : Nat) a b, l[i]? = some a → m[i]? = some b → R a b
section
variable {α β γ : Type} {R S : α → β → Prop}
theorem All2.nil : All2 R [] [] := ⟨rfl, fun i a b h => by simp at h⟩
theorem All2.cons {a : α} {b : β} {l : List α} {m : List β} (h : R a b) (k : All2 R l m) : All2 R (a :: l) (b :: m) := by
  refine ⟨by simp [k.1], fun i x y hx hy => ?_⟩
  cases i with
  | zero => simp at hx hy; subst hx hy; exact h
  | succ i => simp at hx hy; exact k.2 i x y hx hy
theorem All2.cons_inv {a : α} {l : List α} {m : List β} (h : All2 R (a :: l) m) : ∃ b m', m = b :: m' ∧ R a b ∧ All2 R l m' := by
  cases m with
  | nil => simp [All2] at h
  | cons b m => exact ⟨b, m, rfl, h.2 0 a b rfl rfl, by simpa using h.1, fun i x y hx hy => h.2 (i + 1) x y (by simpa using hx) (by simpa using hy)⟩
theorem All2.nil_inv {m : List β} (h : All2 R [] m) : m = [] := by cases m with | nil => rfl | cons b m => simp [All2] at h
theorem All2.mono {l : List α} {m : List β} (h : All2 R l m) (hm : ∀ a b, a ∈ l → R a b → S a b) : All2 S l m :=
  ⟨h.1, fun i a b ha hb => hm a b (List.mem_of_getElem? ha) (h.2 i a b ha hb)⟩
theorem All2.get {l : List α} {m : List β} (h : All2 R l m) {i : Nat} {a : α} (ha : l[i]? = some a) : ∃ b, m[i]? = some b ∧ R a b := by
  have hi : i < l.length := by
    rcases Nat.lt_or_ge i l.length with h' | h'
    · exact h'
    · rw [List.getElem?_eq_none h'] at ha; cases ha
  have hb : m[i]? = some (m[i]'(by rw [← h.1]; exact hi)) := List.getElem?_eq_getElem _
  exact ⟨_, hb, h.2 i a _ ha hb⟩
theorem All2.get' {l : List α} {m : List β} (h : All2 R l m) {i : Nat} {b : β} (hb : m[i]? = some b) : ∃ a, l[i]? = some a ∧ R a b := by
  have hi : i < m.length := by
    rcases Nat.lt_or_ge i m.length with h' | h'
    · exact h'
    · rw [List.getElem?_eq_none h'] at hb; cases hb
  have ha : l[i]? = some (l[i]'(by rw [h.1]; exact hi)) := List.getElem?_eq_getElem _
  exact ⟨_, ha, h.2 i _ b ha hb⟩
theorem All2.set {l : List α} {m : List β} (h : All2 R l m) (i : Nat) {a : α} {b : β} (hab : R a b) : All2 R (l.set i a) (m.set i b) := by
  refine ⟨by simp [h.1], fun j x y hx hy => ?_⟩
  by_cases hij : i = j
  · subst hij
    rw [List.getElem?_set_self'] at hx hy
    cases hl : l[i]? with
    | none => simp [hl] at hx
    | some x' =>
      obtain ⟨y', hy', _⟩ := h.get hl
      simp [hl, hy'] at hx hy
      subst hx hy; exact hab
  · rw [List.getElem?_set_ne hij] at hx hy
    exact h.2 j x y hx hy
theorem All2.append {l l' : List α} {m m' : List β} (h : All2 R l m) (k : All2 R l' m') : All2 R (l ++ l') (m ++ m') := by
  refine ⟨by simp [h.1, k.1], fun i x y hx hy => ?_⟩
  rcases Nat.lt_or_ge i l.length with hi | hi
  · rw [List.getElem?_append_left hi] at hx
    rw [List.getElem?_append_left (by rw [← h.1]; exact hi)] at hy
    exact h.2 i x y hx hy
  · rw [List.getElem?_append_right hi] at hx
    rw [List.getElem?_append_right (by rw [← h.1]; exact hi), ← h.1] at hy
    exact k.2 _ x y hx hy
theorem All2.take {l : List α} {m : List β} (h : All2 R l m) (n : Nat) : All2 R (l.take n) (m.take n) := by
  refine ⟨by simp [h.1], fun i x y hx hy => ?_⟩
  rw [List.getElem?_take] at hx hy
  split at hx
  · rename_i hi; rw [if_pos hi] at hy; exact h.2 i x y hx hy
  · cases hx
theorem All2.drop {l : List α} {m : List β} (h : All2 R l m) (n : Nat) : All2 R (l.drop n) (m.drop n) := by
  refine ⟨by simp [h.1], fun i x y hx hy => ?_⟩
  rw [List.getElem?_drop] at hx hy
  exact h.2 _ x y hx hy
theorem All2.append_inv {l l' : List α} {m : List β} (h : All2 R (l ++ l') m) : ∃ m1 m2, m = m1 ++ m2 ∧ All2 R l m1 ∧ All2 R l' m2 := by
  refine ⟨m.take l.length, m.drop l.length, (List.take_append_drop _ _).symm, ?_, ?_⟩
  · have := h.take l.length; simpa using this
  · have := h.drop l.length; simpa using this
theorem All2.replicate {a : α} {b : β} (h : R a b) (n : Nat) : All2 R (List.replicate n a) (List.replicate n b) := by
  refine ⟨by simp, fun i x y hx hy => ?_⟩
  have h1 := List.mem_of_getElem? hx
  have h2 := List.mem_of_getElem? hy
  rw [(List.mem_replicate.1 h1).2, (List.mem_replicate.1 h2).2]; exact h
end

/-- What an object is in memory. -/
inductive GO | cells (b : Nat) (T : TypeId) (vs : List Value) | arr (ver : Nat) (v : Value) (sz : Nat) (xs : List Value) | gone | fresh

def CellsAt (w : World) (b off : Nat) (xs : List Value) : Prop := ∀ (i : Nat) x, xs[i]? = some x → w.cell? ⟨b, off + i, none⟩ = some x
def SlI (Z : Zone) (w : World) (l : List Int) (x : Value) : Prop := ∃ a cap, x = .slice a l.length cap ∧ l.length ≤ cap ∧ l.length ≤ maxLen ∧
  (l = [] ∨ ∃ b off, a = some ⟨b, off, none⟩ ∧ Z b ∧ CellsAt w b off (l.map (.int .i64 ·)))
def ElemsR (Z : Zone) (w : World) : SD → List Value → Prop
  | .ts l, xs => ∃ hs : List HT, hs.map HT.er = l ∧ xs = flatT hs ∧ ∀ h ∈ hs, Rd Z w h
  | .is l, xs => xs = l.map (.int .i64 ·)
  | .iss l, xs => All2 (SlI Z w) l xs
  | .ss l, xs => xs = l.map .string
  | .bs l, xs => xs = l.map fun c => .int .u8 (c.toNat : Int)
def SlR (Z : Zone) (w : World) (d : SD) (x : Value) : Prop := ∃ a cap xs, x = .slice a d.len cap ∧ d.len ≤ cap ∧ d.len ≤ maxLen ∧ ElemsR Z w d xs ∧
  (xs = [] ∨ ∃ b off, a = some ⟨b, off, none⟩ ∧ Z b ∧ CellsAt w b off xs)
def CellsR (Z : Zone) (w : World) : SE → List Value → Prop
  | .t x, cs => ∃ h : HT, h.er = x ∧ Rd Z w h ∧ cs = [.int .i64 h.k, .int .i64 h.n, h.sl]
  | .i n, cs => cs = [.int .i64 n]
  | .ii l, cs => ∃ x, cs = [x] ∧ SlI Z w l x
  | .s x, cs => cs = [.string x]
  | .b c, cs => cs = [.int .u8 (c.toNat : Int)]
def EpR (Z : Zone) (w : World) (e : SE) (o : Nat) (x : Value) : Prop := ∃ b off cs, x = .pointer (some ⟨b, off + o, none⟩) ∧ Z b ∧ CellsAt w b off cs ∧ CellsR Z w e cs
def pv (b o : Nat) : Value := .pointer (some ⟨b, o, none⟩)
def RS (G : List GO) (Z : Zone) (w : World) : SV → Value → Prop
  | .int k n, x => x = .int k n
  | .bool b, x => x = .bool b
  | .str s, x => x = .string s
  | .emp _, x => ∃ a, x = .slice a 0 0
  | .fr d, x => SlR Z w d x
  | .own j v, x => G[j]? = some .gone ∨ ∃ ver val sz xs, G[j]? = some (.arr ver val sz xs) ∧ v ≤ ver ∧ (v = ver → x = val)
  | .ptr j o, x => G[j]? = some .gone ∨ ∃ b T vs, G[j]? = some (.cells b T vs) ∧ x = pv b o
  | .ep e o, x => EpR Z w e o x
  | .op j v i o, x => G[j]? = some .gone ∨ ∃ ver val sz xs, G[j]? = some (.arr ver val sz xs) ∧ v ≤ ver ∧ (v = ver → ∃ b off n c, val = .slice (some ⟨b, off, none⟩) n c ∧ i < n ∧ x = pv b (off + i * sz + o))
  | .fn f l, x => ∃ bs : List Nat, x = .func (.func f) #[] (bs.map fun b => pv b 0).toArray ∧ All2 (fun j b => G[j]? = some .gone ∨ ∃ T vs, G[j]? = some (.cells b T vs)) l bs
  | .nilp, x => x = .pointer none
  | .any, _ => True
/-- A value that takes one cell. -/
def OneR (G : List GO) (Z : Zone) (w : World) (v : SV) (x : Value) : Prop := RS G Z w v x ∧ oneB x = true
def RV1 (G : List GO) (Z : Zone) (w : World) : V1 → Value → Prop
  | .one s, x => RS G Z w s x ∧ (s ≠ .any → oneB x = true)
  | .agg l, x => ∃ xs : List Value, x = .agg xs.toArray ∧ All2 (OneR G Z w) l xs
def RV (G : List GO) (Z : Zone) (w : World) : AV → Value → Prop
  | .v v, x => RV1 G Z w v x
  | .tup l, x => ∃ xs : List Value, x = .tuple xs.toArray ∧ All2 (RV1 G Z w) l xs
/-- A row of the call's own: a slice without room stands on nothing. -/
def rowZ (e sz : Nat) (v : Value) (n : Nat) (xs : List Value) : Res :=
  match v with
  | .slice a _ 0 => ⟨fun _ => False, fun _ => n = 0 ∧ xs = [] ∧ v = .slice a 0 0⟩
  | v => rowR e sz v n xs
theorem rowZ_local (e sz : Nat) (v : Value) (n : Nat) (xs : List Value) : (rowZ e sz v n xs).Local := by
  unfold rowZ
  split
  · exact fun _ _ _ h => h
  · exact rowR_local _ _ _ _ _
def resO : AObj → GO → List Res
  | .cells _, .cells b T vs => [blk b vs T]
  | .arr e d _ false, .arr _ v sz xs => [rowZ e sz v d.len xs]
  | _, _ => []
def RO (G : List GO) (Z : Zone) (w : World) : AObj → GO → Prop
  | .cells l, .cells b T vs => All2 (OneR G Z w) l vs
  | .arr e d ver fz, .arr ver' v sz xs => ver = ver' ∧ sz = d.kind.size ∧ cond fz (SlR Z w d v) (ElemsR Z w d xs ∧ ∃ a c, v = .slice a d.len c)
  | .dead, .gone => True
  | .dead, .fresh => True
  | _, _ => False
def resL : List AObj → List GO → List Res
  | o :: h, g :: G => resO o g ++ resL h G
  | _, _ => []
/-- What is known beside the call's own memory. -/
def relF (s : AS) (G : List GO) (tv : List Value) : Fact := fun Z w => All2 (RV G Z w) s.tmps tv ∧ All2 (RO G Z w) s.heap G
/-- The objects are G; from number b on none has been made. -/
structure InvG (w0 : World) (M Z0 : Zone) (b : Nat) (G : List GO) (s : AS) (tv : List Value) (w : World) : Prop where
  st : St w0 M Z0 (resL s.heap G) (relF s G tv) w
  fresh : ∀ j, b ≤ j → j < G.length → G[j]? = some .fresh
  mz : MZ M Z0 w0
def Inv (w0 : World) (M Z0 : Zone) (b : Nat) (s : AS) (tv : List Value) (w : World) : Prop := ∃ G, InvG w0 M Z0 b G s tv w

/-! All of it stands as long as the memory that it speaks of does. -/
section
variable {Z Z' : Zone} {w w' : World}
abbrev Keeps (Z Z' : Zone) (w w' : World) : Prop := ∀ b, Z b → b < w.heap.size → Z' b ∧ w'.heap[b]? = w.heap[b]?
theorem CellsAt.lt {b off : Nat} {xs : List Value} (h : CellsAt w b off xs) (hne : xs ≠ []) : b < w.heap.size := by
  cases xs with
  | nil => exact absurd rfl hne
  | cons x xs => exact cell_lt (h 0 x rfl)
theorem CellsAt.keep {b off : Nat} {xs : List Value} (h : CellsAt w b off xs) (hk : w'.heap[b]? = w.heap[b]?) : CellsAt w' b off xs :=
  fun i x hx => (cell_keep hk).trans (h i x hx)
theorem SlI.stable (hz : Keeps Z Z' w w') {l : List Int} {x : Value} (h : SlI Z w l x) : SlI Z' w' l x := by
  obtain ⟨a, cap, hx, h1, h2, h3⟩ := h
  refine ⟨a, cap, hx, h1, h2, ?_⟩
  rcases h3 with h3 | ⟨b, off, ha, hb, hc⟩
  · exact .inl h3
  · by_cases hl : l = []
    · exact .inl hl
    · have hlt := hc.lt (by simpa using hl)
      exact .inr ⟨b, off, ha, (hz b hb hlt).1, hc.keep (hz b hb hlt).2⟩
theorem ElemsR.stable (hz : Keeps Z Z' w w') {d : SD} {xs : List Value} (h : ElemsR Z w d xs) : ElemsR Z' w' d xs := by
  cases d with
  | ts l => obtain ⟨hs, h1, h2, h3⟩ := h; exact ⟨hs, h1, h2, fun t ht => Rd.stable Z Z' w w' hz t (h3 t ht)⟩
  | is l => exact h
  | iss l => exact All2.mono h (fun _ _ _ hh => hh.stable hz)
  | ss l => exact h
  | bs l => exact h
theorem SlR.stable (hz : Keeps Z Z' w w') {d : SD} {x : Value} (h : SlR Z w d x) : SlR Z' w' d x := by
  obtain ⟨a, cap, xs, hx, h1, h2, h3, h4⟩ := h
  refine ⟨a, cap, xs, hx, h1, h2, h3.stable hz, ?_⟩
  rcases h4 with h4 | ⟨b, off, ha, hb, hc⟩
  · exact .inl h4
  · by_cases hl : xs = []
    · exact .inl hl
    · have hlt := hc.lt hl
      exact .inr ⟨b, off, ha, (hz b hb hlt).1, hc.keep (hz b hb hlt).2⟩
theorem CellsR.stable (hz : Keeps Z Z' w w') {e : SE} {cs : List Value} (h : CellsR Z w e cs) : CellsR Z' w' e cs := by
  cases e with
  | t x => obtain ⟨t, h1, h2, h3⟩ := h; exact ⟨t, h1, Rd.stable Z Z' w w' hz t h2, h3⟩
  | i n => exact h
  | ii l => obtain ⟨x, h1, h2⟩ := h; exact ⟨x, h1, h2.stable hz⟩
  | s x => exact h
  | b c => exact h
theorem CellsR.ne {e : SE} {cs : List Value} (h : CellsR Z w e cs) : cs ≠ [] := by
  cases e with
  | t x => obtain ⟨t, h1, h2, h3⟩ := h; simp [h3]
  | i n => simp only [CellsR] at h; simp [h]
  | ii l => obtain ⟨x, h1, h2⟩ := h; simp [h1]
  | s x => simp only [CellsR] at h; simp [h]
  | b c => simp only [CellsR] at h; simp [h]
theorem EpR.stable (hz : Keeps Z Z' w w') {e : SE} {o : Nat} {x : Value} (h : EpR Z w e o x) : EpR Z' w' e o x := by
  obtain ⟨b, off, cs, hx, hb, hc, hr⟩ := h
  have hlt := hc.lt hr.ne
  exact ⟨b, off, cs, hx, (hz b hb hlt).1, hc.keep (hz b hb hlt).2, hr.stable hz⟩
theorem RS.stable {G : List GO} (hz : Keeps Z Z' w w') {s : SV} {x : Value} (h : RS G Z w s x) : RS G Z' w' s x := by
  cases s with
  | fr d => exact SlR.stable hz h
  | ep e o => exact EpR.stable hz h
  | _ => exact h
theorem RV1.stable {G : List GO} (hz : Keeps Z Z' w w') {v : V1} {x : Value} (h : RV1 G Z w v x) : RV1 G Z' w' v x := by
  cases v with
  | one s => exact ⟨h.1.stable hz, h.2⟩
  | agg l => obtain ⟨xs, hx, hh⟩ := h; exact ⟨xs, hx, hh.mono fun _ _ _ k => ⟨k.1.stable hz, k.2⟩⟩
theorem RV.stable {G : List GO} (hz : Keeps Z Z' w w') {v : AV} {x : Value} (h : RV G Z w v x) : RV G Z' w' v x := by
  cases v with
  | v v => exact RV1.stable hz h
  | tup l => obtain ⟨xs, hx, hh⟩ := h; exact ⟨xs, hx, hh.mono fun _ _ _ k => k.stable hz⟩
theorem RO.stable {G : List GO} (hz : Keeps Z Z' w w') {o : AObj} {g : GO} (h : RO G Z w o g) : RO G Z' w' o g := by
  cases o with
  | cells l => cases g with
    | cells b T vs => exact All2.mono h fun _ _ _ k => ⟨k.1.stable hz, k.2⟩
    | _ => exact h
  | arr e d ver fz => cases g with
    | arr ver' v sz xs =>
      obtain ⟨h1, h2, h3⟩ := h
      refine ⟨h1, h2, ?_⟩
      cases fz with
      | true => exact SlR.stable hz h3
      | false => exact ⟨ElemsR.stable hz h3.1, h3.2⟩
    | _ => exact h
  | dead => cases g <;> exact h
theorem relF_stable (s : AS) (G : List GO) (tv : List Value) : Stable (relF s G tv) := fun Z Z' w w' hz h =>
  ⟨h.1.mono fun _ _ _ k => k.stable hz, h.2.mono fun _ _ _ k => k.stable hz⟩
end
theorem resO_local (o : AObj) (g : GO) : ∀ r ∈ resO o g, r.Local := by
  intro r hr
  unfold resO at hr
  split at hr
  · rw [List.mem_singleton] at hr; subst hr; exact blk_local _ _ _
  · rw [List.mem_singleton] at hr; subst hr; exact rowZ_local _ _ _ _ _
  · cases hr

/-! One object taken out of all. -/
theorem resO_gone (o : AObj) : resO o .gone = [] := by cases o with | arr e d v z => cases z <;> rfl | _ => rfl
theorem resO_dead (g : GO) : resO .dead g = [] := by cases g <;> rfl
theorem resL_out : ∀ (h : List AObj) (G : List GO) (j : Nat) {o : AObj} {g : GO}, h[j]? = some o → G[j]? = some g → (resL h G).Perm (resO o g ++ resL (h.set j .dead) (G.set j .gone))
  | [], _, j, o, g, hj, _ => by simp at hj
  | _ :: _, [], j, o, g, _, gj => by simp at gj
  | x :: h, y :: G, 0, o, g, hj, gj => by
    simp only [List.getElem?_cons_zero, Option.some.injEq] at hj gj
    subst hj gj
    simp only [List.set_cons_zero, resL, resO_dead, List.nil_append]
    exact List.Perm.refl _
  | x :: h, y :: G, j + 1, o, g, hj, gj => by
    simp only [List.getElem?_cons_succ] at hj gj
    simp only [List.set_cons_succ, resL]
    have := (resL_out h G j hj gj).append_left (resO x y)
    refine this.trans ?_
    rw [← List.append_assoc, ← List.append_assoc]
    exact List.perm_append_comm.append_right _
theorem resL_in {h : List AObj} {G : List GO} {j : Nat} (o : AObj) (g : GO) (hj : j < h.length) (gj : j < G.length) : (resO o g ++ resL (h.set j .dead) (G.set j .gone)).Perm (resL (h.set j o) (G.set j g)) := by
  have := resL_out (h.set j o) (G.set j g) j (o := o) (g := g) (by simp [hj]) (by simp [gj])
  rw [List.set_set, List.set_set] at this
  exact this.symm
theorem resL_append : ∀ {h h' : List AObj} {G G' : List GO}, h.length = G.length → resL (h ++ h') (G ++ G') = resL h G ++ resL h' G'
  | [], _, [], _, _ => rfl
  | x :: h, h', y :: G, G', hl => by simp only [List.cons_append, resL]; rw [resL_append (by simpa using hl), List.append_assoc]
  | [], _, _ :: _, _, hl => by simp at hl
  | _ :: _, _, [], _, hl => by simp at hl
theorem resL_dead : ∀ (n : Nat) (G : List GO), resL (List.replicate n .dead) G = []
  | 0, _ => rfl
  | n + 1, [] => rfl
  | n + 1, g :: G => by rw [List.replicate_succ, resL, resO_dead, resL_dead n G]; rfl
/-- The memory of fewer objects. -/
theorem _root_.Go.Dk.St.sub {w0 w : World} {M Z0 : Zone} {L L' : List Res} {φ : Fact} (h : St w0 M Z0 L φ w) (hs : L'.Sublist L) : St w0 M Z0 L' φ w :=
  ⟨h.ext, fun r hr => h.own r (hs.subset hr), fun r hr => h.loc r (hs.subset hr), fun r hr => h.key r (hs.subset hr), h.dis.sublist hs, h.stab,
    h.stab _ _ w w (fun b hz _ => ⟨⟨hz.1, fun r hr => hz.2 r (hs.subset hr)⟩, rfl⟩) h.per⟩
theorem _root_.Go.Dk.St.weak {w0 w : World} {M Z0 : Zone} {L : List Res} {φ ψ : Fact} (h : St w0 M Z0 L φ w) (hs : Stable ψ) (hp : φ (zone w0 Z0 L) w → ψ (zone w0 Z0 L) w) : St w0 M Z0 L ψ w :=
  ⟨h.ext, h.own, h.loc, h.key, h.dis, hs, hp h.per⟩

/-! Objects that turn, or are no more. -/
/-- From one list of objects to a later one: what is spoken of stays what it was, or is gone. -/
def Up (G G' : List GO) : Prop := ∀ (j : Nat), 
  (G[j]? = some .gone → G'[j]? = some .gone) ∧
  (∀ b T vs, G[j]? = some (.cells b T vs) → G'[j]? = some .gone ∨ ∃ T' vs', G'[j]? = some (.cells b T' vs')) ∧
  (∀ ver val sz xs, G[j]? = some (.arr ver val sz xs) → G'[j]? = some .gone ∨ ∃ ver' val' xs', G'[j]? = some (.arr ver' val' sz xs') ∧ (ver < ver' ∨ (ver = ver' ∧ val = val')))
theorem Up.refl (G : List GO) : Up G G := fun j => ⟨id, fun b T vs h => .inr ⟨T, vs, h⟩, fun ver val sz xs h => .inr ⟨ver, val, xs, h, .inr ⟨rfl, rfl⟩⟩⟩
theorem Up.trans {G G' G'' : List GO} (h : Up G G') (k : Up G' G'') : Up G G'' := by
  intro j
  refine ⟨fun hh => (k j).1 ((h j).1 hh), fun b T vs hh => ?_, fun ver val sz xs hh => ?_⟩
  · rcases (h j).2.1 b T vs hh with h1 | ⟨T', vs', h1⟩
    · exact .inl ((k j).1 h1)
    · exact (k j).2.1 b T' vs' h1
  · rcases (h j).2.2 ver val sz xs hh with h1 | ⟨ver', val', xs', h1, h2⟩
    · exact .inl ((k j).1 h1)
    · rcases (k j).2.2 ver' val' sz xs' h1 with h3 | ⟨ver'', val'', xs'', h3, h4⟩
      · exact .inl h3
      · refine .inr ⟨ver'', val'', xs'', h3, ?_⟩
        rcases h2 with h2 | ⟨rfl, rfl⟩
        · rcases h4 with h4 | ⟨rfl, rfl⟩
          · exact .inl (by omega)
          · exact .inl h2
        · exact h4
/-- Turning object j. -/
theorem Up.set {G : List GO} {j : Nat} {g : GO} (h : ∀ g0, G[j]? = some g0 → match g0, g with
    | .fresh, _ => True
    | _, .gone => True
    | .cells b _ _, .cells b' _ _ => b = b'
    | .arr ver val sz _, .arr ver' val' sz' _ => sz = sz' ∧ (ver < ver' ∨ (ver = ver' ∧ val = val'))
    | _, _ => False) : Up G (G.set j g) := by
  intro i
  by_cases hij : j = i
  · subst hij
    cases hg : G[j]? with
    | none => exact ⟨nofun, nofun, nofun⟩
    | some g0 =>
      have hlt : j < G.length := by
        rcases Nat.lt_or_ge j G.length with h' | h'
        · exact h'
        · rw [List.getElem?_eq_none h'] at hg; cases hg
      have hs : (G.set j g)[j]? = some g := by simp [hlt]
      have hh := h g0 hg
      refine ⟨fun e => ?_, fun b T vs e => ?_, fun ver val sz xs e => ?_⟩
      · obtain rfl := Option.some.inj e; rw [hs]; cases g <;> first | rfl | exact hh.elim
      · obtain rfl := Option.some.inj e; rw [hs]
        cases g with
        | gone => exact .inl rfl
        | cells b' T' vs' => have hh : b = b' := hh; subst hh; exact .inr ⟨T', vs', rfl⟩
        | _ => exact hh.elim
      · obtain rfl := Option.some.inj e; rw [hs]
        cases g with
        | gone => exact .inl rfl
        | arr ver' val' sz' xs' => obtain ⟨rfl, hh⟩ := hh; exact .inr ⟨ver', val', xs', rfl, hh⟩
        | _ => exact hh.elim
  · rw [List.getElem?_set_ne hij]
    exact ⟨id, fun b T vs h => .inr ⟨T, vs, h⟩, fun ver val sz xs h => .inr ⟨ver, val, xs, h, .inr ⟨rfl, rfl⟩⟩⟩
theorem Up.append (G N : List GO) : Up G (G ++ N) := by
  intro j
  have : ∀ g, G[j]? = some g → (G ++ N)[j]? = some g := fun g h => by
    rcases Nat.lt_or_ge j G.length with h' | h'
    · rw [List.getElem?_append_left h']; exact h
    · rw [List.getElem?_eq_none h'] at h; cases h
  exact ⟨fun h => this _ h, fun b T vs h => .inr ⟨T, vs, this _ h⟩, fun ver val sz xs h => .inr ⟨ver, val, xs, this _ h, .inr ⟨rfl, rfl⟩⟩⟩
section
variable {G G' : List GO} {Z : Zone} {w : World}
theorem RS.up (h : Up G G') {s : SV} {x : Value} (k : RS G Z w s x) : RS G' Z w s x := by
  cases s with
  | own j v =>
    rcases k with k | ⟨ver, val, sz, xs, hg, hv, he⟩
    · exact .inl ((h j).1 k)
    · rcases (h j).2.2 _ _ _ _ hg with h1 | ⟨ver', val', xs', h1, h2⟩
      · exact .inl h1
      · refine .inr ⟨ver', val', sz, xs', h1, ?_⟩
        rcases h2 with h2 | ⟨rfl, rfl⟩
        · exact ⟨by omega, fun e => by omega⟩
        · exact ⟨hv, he⟩
  | ptr j o =>
    rcases k with k | ⟨b, T, vs, hg, he⟩
    · exact .inl ((h j).1 k)
    · rcases (h j).2.1 _ _ _ hg with h1 | ⟨T', vs', h1⟩
      · exact .inl h1
      · exact .inr ⟨b, T', vs', h1, he⟩
  | op j v i o =>
    rcases k with k | ⟨ver, val, sz, xs, hg, hv, he⟩
    · exact .inl ((h j).1 k)
    · rcases (h j).2.2 _ _ _ _ hg with h1 | ⟨ver', val', xs', h1, h2⟩
      · exact .inl h1
      · refine .inr ⟨ver', val', sz, xs', h1, ?_⟩
        rcases h2 with h2 | ⟨rfl, rfl⟩
        · exact ⟨by omega, fun e => by omega⟩
        · exact ⟨hv, he⟩
  | fn f l =>
    obtain ⟨bs, hx, hh⟩ := k
    refine ⟨bs, hx, hh.mono fun j b _ hjb => ?_⟩
    rcases hjb with h1 | ⟨T, vs, h1⟩
    · exact .inl ((h j).1 h1)
    · rcases (h j).2.1 _ _ _ h1 with h2 | ⟨T', vs', h2⟩
      · exact .inl h2
      · exact .inr ⟨T', vs', h2⟩
  | _ => exact k
theorem RV1.up (h : Up G G') {s : V1} {x : Value} (k : RV1 G Z w s x) : RV1 G' Z w s x := by
  cases s with
  | one s => exact ⟨k.1.up h, k.2⟩
  | agg l => obtain ⟨xs, hx, hh⟩ := k; exact ⟨xs, hx, hh.mono fun _ _ _ k => ⟨k.1.up h, k.2⟩⟩
theorem RV.up (h : Up G G') {s : AV} {x : Value} (k : RV G Z w s x) : RV G' Z w s x := by
  cases s with
  | v s => exact RV1.up h k
  | tup l => obtain ⟨xs, hx, hh⟩ := k; exact ⟨xs, hx, hh.mono fun _ _ _ k => k.up h⟩
theorem RO.up (h : Up G G') {o : AObj} {g : GO} (k : RO G Z w o g) : RO G' Z w o g := by
  cases o with
  | cells l => cases g with
    | cells b T vs => exact All2.mono k fun _ _ _ k => ⟨k.1.up h, k.2⟩
    | _ => exact k
  | arr e d ver fz => cases g <;> exact k
  | dead => cases g <;> exact k
end
end Go.Ab
