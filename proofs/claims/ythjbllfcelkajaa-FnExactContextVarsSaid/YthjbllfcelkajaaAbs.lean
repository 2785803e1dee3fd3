/- Abstract values, and the abstract run of code over them: terms as trees, slices as lists, local variables and growing slices as objects with numbers. No program in sight. -/
import Derived.Test.YthjbllfcelkajaaTree
set_option linter.unusedVariables false
namespace Go.Ab
open Go Go.Dk

/-- What the elements of a slice are. -/
inductive SK | t | i | ii | s | b
def SK.beq : SK → SK → Bool
  | .t, .t | .i, .i | .ii, .ii | .s, .s | .b, .b => true
  | _, _ => false
/-- What a slice holds. -/
inductive SD
  | ts (l : List T) | is (l : List Int) | iss (l : List (List Int)) | ss (l : List ByteArray) | bs (l : List UInt8)
/-- One element. -/
inductive SE
  | t (t : T) | i (n : Int) | ii (l : List Int) | s (x : ByteArray) | b (c : UInt8)
def SK.size : SK → Nat | .t => 3 | _ => 1
def SK.nil : SK → SD | .t => .ts [] | .i => .is [] | .ii => .iss [] | .s => .ss [] | .b => .bs []
def SD.kind : SD → SK | .ts _ => .t | .is _ => .i | .iss _ => .ii | .ss _ => .s | .bs _ => .b
def SD.len : SD → Nat | .ts l => l.length | .is l => l.length | .iss l => l.length | .ss l => l.length | .bs l => l.length

/-- A value of one cell. -/
inductive SV
  | int (k : IntKind) (n : Int)
  | bool (b : Bool)
  | str (x : ByteArray)
  | emp (k : Option (TypeId × SK))
  | fr (d : SD)
  | own (j v : Nat)
  | ptr (j off : Nat)
  | ep (e : SE) (off : Nat)
  | op (j v i off : Nat)
  | fn (f : FuncId) (caps : List Nat)
  | nilp
  | any
inductive V1 | one (s : SV) | agg (l : List SV)
inductive AV | v (x : V1) | tup (l : List V1)
inductive AObj | cells (l : List SV) | arr (e : TypeId) (d : SD) (ver : Nat) (fz : Bool) | dead
structure AS where
  tmps : List AV
  heap : List AObj
abbrev OR := Option (List V1 × List AObj)
def anyV : AV := .v (.one .any)

def V1.cells : V1 → List SV | .one s => [s] | .agg l => l
/-- The cells of a value; of one of which nothing is known, none. -/
def AV.cs : AV → Option (List SV)
  | .v (.one .any) => none
  | .v (.one s) => some [s]
  | .v (.agg l) => some l
  | .tup _ => none
def csL : List AV → Option (List (List SV))
  | [] => some []
  | v :: l => v.cs.bind fun c => (csL l).map (c :: ·)
def SE.cells : SE → List SV
  | .t x => [.int .i64 x.k, .int .i64 x.n, .fr (.ts x.kids)]
  | .i n => [.int .i64 n]
  | .ii l => [.fr (.is l)]
  | .s x => [.str x]
  | .b c => [.int .u8 (c.toNat : Int)]
def SD.get (d : SD) (i : Nat) (k : SE → OR) : OR :=
  match d with
  | .ts l => l[i]?.bind fun x => k (.t x)
  | .is l => l[i]?.bind fun x => k (.i x)
  | .iss l => l[i]?.bind fun x => k (.ii x)
  | .ss l => l[i]?.bind fun x => k (.s x)
  | .bs l => l[i]?.bind fun x => k (.b x)
def SD.app (d e : SD) (k : SD → OR) : OR :=
  match d, e with
  | .ts l, .ts m => k (.ts (l ++ m))
  | .is l, .is m => k (.is (l ++ m))
  | .iss l, .iss m => k (.iss (l ++ m))
  | .ss l, .ss m => k (.ss (l ++ m))
  | .bs l, .bs m => k (.bs (l ++ m))
  | _, _ => none
def SD.set (d : SD) (i : Nat) (e : SE) (k : SD → OR) : OR :=
  match d, e with
  | .ts l, .t x => k (.ts (l.set i x))
  | .is l, .i x => k (.is (l.set i x))
  | .iss l, .ii x => k (.iss (l.set i x))
  | .ss l, .s x => k (.ss (l.set i x))
  | .bs l, .b x => k (.bs (l.set i x))
  | _, _ => none
def SD.sub (d : SD) (lo hi : Nat) : SD :=
  match d with
  | .ts l => .ts ((l.take hi).drop lo)
  | .is l => .is ((l.take hi).drop lo)
  | .iss l => .iss ((l.take hi).drop lo)
  | .ss l => .ss ((l.take hi).drop lo)
  | .bs l => .bs ((l.take hi).drop lo)

/-! Types. -/
def kind0 (P : Program) (e : TypeId) : Option SK :=
  match P.underlying e with
  | some (.struct _) => (match structT P e with | some 3 => some .t | _ => none)
  | some (.int .i64) => some .i
  | some (.int .u8) => some .b
  | some .string => some .s
  | some (.slice e') => (match P.underlying e' with | some (.int .i64) => some .ii | _ => none)
  | _ => none
def sizeOk (P : Program) (e : TypeId) (k : SK) : Bool := match P.info? e with
  | some i => (match i.zero with
    | some z => Nat.beq i.size k.size && (Nat.beq z.cells.size k.size && Nat.ble i.bytes 64)
    | none => false)
  | none => false
def kindE (P : Program) (e : TypeId) : Option SK := (kind0 P e).bind fun k => cond (sizeOk P e k) (some k) none
/-- The elements of a slice type: their type and kind. -/
def kindS (P : Program) (t : TypeId) : Option (TypeId × SK) := match P.underlying t with | some (.slice e) => (kindE P e).map fun k => (e, k) | _ => none
/-- The kinds of the slices among the leaves of a type. -/
def leaves (P : Program) : Nat → TypeId → List (Option (TypeId × SK))
  | 0, _ => [none]
  | n + 1, t => match P.underlying t with
    | some (.struct fs) => fs.toList.flatMap fun f => leaves P n f.type
    | some (.slice _) => [kindS P t]
    | _ => [none]
def svOf (k : Option (TypeId × SK)) : Value → SV
  | .int k n => .int k n
  | .bool b => .bool b
  | .string s => .str s
  | .slice none 0 0 => .emp k
  | .pointer none => .nilp
  | _ => .any
def svsOf : List (Option (TypeId × SK)) → List Value → List SV
  | k :: ks, v :: vs => svOf k v :: svsOf ks vs
  | [], v :: vs => svOf none v :: svsOf [] vs
  | _, [] => []
def AV.ofValue : Value → AV
  | .agg cs => cond (cs.toList.all oneB) (.v (.agg (svsOf [] cs.toList))) anyV
  | .tuple _ => anyV
  | x => .v (.one (svOf none x))
/-- A nil slice whose type is told. -/
def retype (P : Program) (t : TypeId) : AV → AV
  | .v (.one (.emp none)) => .v (.one (.emp (kindS P t)))
  | .v (.agg l) => .v (.agg (go (leaves P 4 t) l))
  | x => x
where go : List (Option (TypeId × SK)) → List SV → List SV
  | k :: ks, .emp none :: l => .emp k :: go ks l
  | _ :: ks, x :: l => x :: go ks l
  | [], l => l
  | _, [] => []
def zeroS (P : Program) (t : TypeId) : Option (List SV) := (zeroB P t).bind fun z => cond (z.all oneB) (some (svsOf (leaves P 4 t) z)) none

def AS.ev (s : AS) : Operand → AV
  | .tmp t => s.tmps.getD t anyV
  | .const v => AV.ofValue v
  | .func f => .v (.one (.fn f []))
  | .global _ => anyV
def AS.put (s : AS) (d : Option Tmp) (v : AV) : AS :=
  match d with
  | some d => { s with tmps := s.tmps.set d v }
  | none => s
/-! What slices hold, read in a memory. -/
/-- Read a slice. -/
def readS (h : List AObj) (x : SV) (k : SD → OR) : OR :=
  match x with
  | .fr d => k d
  | .emp (some e) => k e.2.nil
  | .own j v => (match h[j]? with
    | some (.arr _ d ver _) => cond (Nat.beq v ver) (k d) none
    | _ => none)
  | _ => none
/-- A slice is frozen: it is read from now on, and turned no more. -/
def sealS (h : List AObj) (x : SV) (k : SV → List AObj → OR) : OR :=
  match x with
  | .own j v => (match h[j]? with
    | some (.arr e d ver _) => cond (Nat.beq v ver) (k (.fr d) (h.set j (.arr e d ver true))) none
    | _ => none)
  | .emp (some e) => k (.fr e.2.nil) h
  | x => k x h
def sealL (h : List AObj) : List SV → (List SV → List AObj → OR) → OR
  | [], k => k [] h
  | x :: l, k => sealS h x fun x' h' => sealL h' l fun l' h'' => k (x' :: l') h''
/-- Cells, frozen, as an element. -/
def elemOf (e : SK) (l : List SV) (k : SE → OR) : OR :=
  match e, l with
  | .t, [.int .i64 a, .int .i64 b, .fr (.ts l)] => k (.t (.mk a b l))
  | .i, [.int .i64 a] => k (.i a)
  | .ii, [.fr (.is l)] => k (.ii l)
  | .s, [.str x] => k (.s x)
  | .b, [.int .u8 n] => cond (decide (0 ≤ n) && decide (n ≤ 255)) (k (.b (UInt8.ofNat n.toNat))) none
  | _, _ => none
def SD.snoc (d : SD) (e : SE) : Option SD :=
  match d, e with
  | .ts l, .t x => some (.ts (l ++ [x]))
  | .is l, .i x => some (.is (l ++ [x]))
  | .iss l, .ii x => some (.iss (l ++ [x]))
  | .ss l, .s x => some (.ss (l ++ [x]))
  | .bs l, .b x => some (.bs (l ++ [x]))
  | _, _ => none
def elemsOf (e : SK) (h : List AObj) : List (List SV) → SD → (SD → List AObj → OR) → OR
  | [], d, k => k d h
  | c :: cs, d, k => sealL h c fun c' h' => elemOf e c' fun x => (d.snoc x).bind fun d' => elemsOf e h' cs d' k

/-! Loads and stores. -/
def packK (P : Program) (t : TypeId) (l : List SV) (k : AV → OR) : OR :=
  match scalarT P t with
  | true => (match l with | c :: _ => k (.v (.one c)) | [] => none)
  | false => (match structT P t with
    | some n => cond (Nat.ble n l.length) (k (.v (.agg (l.take n)))) none
    | none => none)
def evLoad (P : Program) (t : TypeId) (x : AV) (h : List AObj) (k : AV → OR) : OR :=
  match x with
  | .v (.one (.ptr j off)) => (match h[j]? with
    | some (.cells l) => packK P t (l.drop off) k
    | _ => none)
  | .v (.one (.ep e off)) => packK P t (e.cells.drop off) k
  | .v (.one (.op j v i off)) => (match h[j]? with
    | some (.arr _ d ver _) => cond (Nat.beq v ver) (d.get i fun e => packK P t (e.cells.drop off) k) none
    | _ => none)
  | _ => none
def putS (l : List SV) (off : Nat) : List SV → List SV
  | [] => l
  | c :: cs => putS (l.set off c) (off + 1) cs
def evStore (P : Program) (t : TypeId) (x y : AV) (h : List AObj) (k : List AObj → OR) : OR :=
  match (P.info? t).map (·.size) with
  | some m => y.cs.bind fun yc => (match x with
    | .v (.one (.ptr j off)) => (match h[j]? with
      | some (.cells l) => cond (Nat.beq m yc.length && Nat.ble (off + m) l.length) (k (h.set j (.cells (putS l off yc)))) none
      | _ => none)
    | .v (.one (.op j v i 0)) => sealL h yc fun c h => (match h[j]? with
      | some (.arr e d ver false) => cond (Nat.beq v ver && Nat.beq m d.kind.size) (elemOf d.kind c fun x => d.set i x fun d' => k (h.set j (.arr e d' ver false))) none
      | _ => none)
    | _ => none)
  | none => none

/-! Operators. -/
def ikEq (a b : IntKind) : Bool := decide (a = b)
def evInt (op : BinOp) (ka : IntKind) (a b : Int) (k : SV → OR) : OR :=
  match op with
  | .add => k (.int ka (ka.wrap (a + b)))
  | .sub => k (.int ka (ka.wrap (a - b)))
  | .mul => k (.int ka (ka.wrap (a * b)))
  | .quo => cond (decide (b = 0)) none (k (.int ka (ka.wrap (a.tdiv b))))
  | .rem => cond (decide (b = 0)) none (k (.int ka (a.tmod b)))
  | .xor => k (.int ka (ka.wrap (BitVec.ofInt ka.bits a ^^^ BitVec.ofInt ka.bits b).toNat))
  | .eql => k (.bool (decide (a = b)))
  | .neq => k (.bool (!decide (a = b)))
  | .lss => k (.bool (decide (a < b)))
  | .leq => k (.bool (decide (a ≤ b)))
  | .gtr => k (.bool (decide (b < a)))
  | .geq => k (.bool (decide (b ≤ a)))
  | _ => none
def evStr (op : BinOp) (a b : ByteArray) (k : SV → OR) : OR :=
  match op with
  | .add => cond (decide (a.size + b.size ≤ 9223372036854775807)) (k (.str (a ++ b))) none
  | .eql => k (.bool (a.toList == b.toList))
  | .neq => k (.bool (!(a.toList == b.toList)))
  | .gtr => k (.bool (!(Op.bytesLess a.toList b.toList || a.toList == b.toList)))
  | _ => none
def evBin (P : Program) (op : BinOp) (t : TypeId) (x y : AV) (k : SV → OR) : OR :=
  match x, y with
  | .v (.one (.int ka a)), .v (.one (.int kb b)) => cond (ikEq ka kb) (evInt op ka a b k) none
  | .v (.one (.str a)), .v (.one (.str b)) => evStr op a b k
  | .v (.one (.bool a)), .v (.one (.bool b)) => (match P.underlying t with
    | some .bool => (match op with
      | .eql => k (.bool (decide (a = b)))
      | .neq => k (.bool (!decide (a = b)))
      | _ => none)
    | _ => none)
  | _, _ => none
def evUn (op : UnOp) (x : AV) (k : SV → OR) : OR :=
  match op, x with
  | .not, .v (.one (.bool b)) => k (.bool (!b))
  | .neg, .v (.one (.int ka n)) => k (.int ka (ka.wrap (0 - n)))
  | _, _ => none
def evConv (P : Program) (t t' : TypeId) (x : AV) (h : List AObj) (k : SV → OR) : OR :=
  match x with
  | .v (.one (.int _ n)) => (match P.underlying t, P.underlying t' with
    | some (.int _), some (.int ka) => k (.int ka (ka.wrap n))
    | _, _ => none)
  | .v (.one x) => (match kindS P t, P.underlying t' with
    | some (_, .b), some .string => readS h x fun d => (match d with | .bs l => k (.str ⟨l.toArray⟩) | _ => none)
    | _, _ => none)
  | _ => none
def optInt (x : AV) (k : Int → OR) : OR := match x with | .v (.one (.int .i64 n)) => k n | _ => none
def inB (lo hi n : Int) : Bool := decide (0 ≤ lo) && (decide (lo ≤ hi) && decide (hi ≤ n))
/-- x[lo:hi:mx]. -/
def evSlice (P : Program) (t : TypeId) (x : AV) (lo hi mx : Option AV) (h : List AObj) (k : SV → List AObj → OR) : OR :=
  match mx with
  | some mx => cond (kindS P t).isSome (optInt mx fun m => (match hi, lo with
    | some hi, none => optInt hi fun n => cond (decide (m = 0) && decide (n = 0)) (match x with
      | .v (.one (.fr d)) => cond (kindEq (kindS P t) d.kind) (k (.emp (kindS P t)) h) none
      | .v (.one (.own j v)) => (match h[j]? with
        | some (.arr _ d ver _) => cond (Nat.beq v ver && kindEq (kindS P t) d.kind) (k (.emp (kindS P t)) h) none
        | _ => none)
      | .v (.one (.emp e)) => (k (.emp (kindS P t)) h)
      | _ => none) none
    | some hi, some lo => optInt hi fun n => optInt lo fun l => cond (decide (m = 0) && (decide (n = 0) && decide (l = 0))) (match x with
      | .v (.one (.fr d)) => cond (kindEq (kindS P t) d.kind) (k (.emp (kindS P t)) h) none
      | .v (.one (.own j v)) => (match h[j]? with
        | some (.arr _ d ver _) => cond (Nat.beq v ver && kindEq (kindS P t) d.kind) (k (.emp (kindS P t)) h) none
        | _ => none)
      | .v (.one (.emp e)) => (k (.emp (kindS P t)) h)
      | _ => none) none
    | _, _ => none)) none
  | none => (match x with
    | .v (.one (.str a)) => (match P.underlying t with
      | some .string => bounds lo hi a.size fun l n => k (.str (a.extract l.toNat n.toNat)) h
      | _ => none)
    | .v (.one x) => (match kindS P t with
      | some e => sealS h x fun x' h' => (match x' with
        | .fr d => cond (SK.beq e.2 d.kind) (bounds lo hi d.len fun l n => k (.fr (d.sub l.toNat n.toNat)) h') none
        | _ => none)
      | none => none)
    | _ => none)
where
  kindEq : Option (TypeId × SK) → SK → Bool
    | some a, c => SK.beq a.2 c
    | none, _ => false
  bounds (lo hi : Option AV) (n : Nat) (k : Int → Int → OR) : OR :=
    match lo, hi with
    | none, none => k 0 n
    | some lo, none => optInt lo fun l => cond (inB l n n) (k l n) none
    | none, some hi => optInt hi fun m => cond (inB 0 m n) (k 0 m) none
    | some lo, some hi => optInt lo fun l => optInt hi fun m => cond (inB l m n) (k l m) none
def evIndexAddr (P : Program) (t : TypeId) (x y : AV) (h : List AObj) (k : SV → OR) : OR :=
  match kindS P t with
  | none => none
  | some e => optInt y fun i => cond (decide (0 ≤ i)) (match x with
    | .v (.one (.fr d)) => cond (SK.beq e.2 d.kind) (d.get i.toNat fun x => k (.ep x 0)) none
    | .v (.one (.own j v)) => (match h[j]? with
      | some (.arr _ d ver _) => cond (Nat.beq v ver && SK.beq e.2 d.kind) (cond (decide (i < d.len)) (k (.op j v i.toNat 0)) none) none
      | _ => none)
    | _ => none) none
def evLen (P : Program) (t : TypeId) (x : AV) (h : List AObj) (k : SV → OR) : OR :=
  match x with
  | .v (.one (.str a)) => (match P.underlying t with | some .string => k (.int .i64 (a.size : Int)) | _ => none)
  | .v (.one (.emp _)) => (match kindS P t with | some _ => k (.int .i64 0) | none => none)
  | .v (.one x) => (match kindS P t with | some _ => readS h x fun d => k (.int .i64 (d.len : Int)) | none => none)
  | _ => none
/-- What a slice of a call's own may come to hold. -/
def roomB (n : Nat) : Bool := decide (n ≤ 1099511627776)
def evAppend (P : Program) (t : TypeId) (x y : AV) (h : List AObj) (sl : Nat) (k : SV → List AObj → OR) : OR :=
  match kindS P t with
  | none => none
  | some e => (match y with
    | .v (.one y) => readS h y fun d' => cond (SK.beq e.2 d'.kind) (match x with
      | .v (.one (.own j v)) => (match h[j]? with
        | some (.arr e' d ver false) => cond (Nat.beq v ver && Nat.beq e.1 e') (d.app d' fun d'' => cond (roomB d''.len) (k (.own j (ver + 1)) (h.set j (.arr e' d'' (ver + 1) false))) none) none
        | _ => none)
      | .v (.one (.emp _)) => cond (roomB d'.len) (k (.own sl 0) (h.set sl (.arr e.1 d' 0 false))) none
      | _ => none) none
    | _ => none)
/-- Is the zero of a type what it is taken for? -/
def zeroIs (P : Program) (e : TypeId) (k : SK) : Bool :=
  match zeroB P e, k with
  | some [.int .i64 a, .int .i64 b, .slice none 0 0], .t => decide (a = 0) && decide (b = 0)
  | some [.int .i64 a], .i => decide (a = 0)
  | some [.string x], .s => decide (x = ByteArray.empty)
  | some [.int .u8 a], .b => decide (a = 0)
  | _, _ => false
def zeros (n : Nat) : SK → Option SD
  | .t => some (.ts (List.replicate n (.mk 0 0 [])))
  | .i => some (.is (List.replicate n 0))
  | .ii => none
  | .s => some (.ss (List.replicate n ByteArray.empty))
  | .b => some (.bs (List.replicate n 0))
def evMake (P : Program) (t : TypeId) (x y : AV) (h : List AObj) (sl : Nat) (k : SV → List AObj → OR) : OR :=
  optInt x fun n => optInt y fun m => cond (decide (n = m) && (decide (0 ≤ n) && decide (n ≤ 4194304))) (match kindS P t with
    | some e => cond (zeroIs P e.1 e.2) ((zeros n.toNat e.2).bind fun d => k (.own sl 0) (h.set sl (.arr e.1 d 0 false))) none
    | none => none) none
def liveC (h : List AObj) (j : Nat) : Bool := match h[j]? with | some (.cells _) => true | _ => false
def liveA (h : List AObj) (j v : Nat) : Bool := match h[j]? with | some (.arr _ _ ver _) => Nat.beq v ver | _ => false
/-- The address d cells further on. -/
def evField (h : List AObj) (d : Nat) (v : AV) (k : SV → OR) : OR :=
  match v with
  | .v (.one (.ptr j o)) => cond (liveC h j) (k (.ptr j (o + d))) none
  | .v (.one (.ep e o)) => k (.ep e (o + d))
  | .v (.one (.op j v n o)) => cond (liveA h j v) (k (.op j v n (o + d))) none
  | _ => none
def evNil (h : List AObj) (v : AV) (k : SV → OR) : OR :=
  match v with
  | .v (.one (.ptr j o)) => cond (liveC h j) (k (.ptr j o)) none
  | .v (.one (.ep e o)) => k (.ep e o)
  | .v (.one (.op j v n o)) => cond (liveA h j v) (k (.op j v n o)) none
  | .v (.one (.fn f l)) => k (.fn f l)
  | _ => none
def evIndex (P : Program) (t : TypeId) (x y : AV) (k : SV → OR) : OR :=
  match x with
  | .v (.one (.str a)) => optInt y fun n => cond (decide (0 ≤ n) && decide (n < a.size)) (match P.underlying t with
      | some .string => k (.int .u8 ((byteAt a n.toNat).toNat : Int))
      | _ => none) none
  | _ => none
def evExtract (x : AV) (i : Nat) (k : AV → OR) : OR := match x with | .tup l => l[i]?.bind fun x => k (.v x) | _ => none
def evMax (mx : Bool) (x y : AV) (k : SV → OR) : OR :=
  match x, y with
  | .v (.one (.int a x)), .v (.one (.int b y)) => cond (ikEq a b) (k (.int a (cond mx (max x y) (min x y)))) none
  | _, _ => none
/-- The objects that closures stand on. -/
def capsOf (h : List AObj) : List AV → Option (List Nat)
  | [] => some []
  | .v (.one (.ptr j 0)) :: l => cond (liveC h j) ((capsOf h l).map (j :: ·)) none
  | _ => none
end Go.Ab
