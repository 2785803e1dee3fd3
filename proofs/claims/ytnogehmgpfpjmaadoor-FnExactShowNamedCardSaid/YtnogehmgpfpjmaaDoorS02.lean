/- Part 2 of the proof. -/
import Derived.Test.YtnogehmgpfpjmaaDoorS01
set_option linter.unusedVariables false
set_option linter.unusedSimpArgs false
section
namespace Go.Ab
open Go Go.Dk
inductive SK | t | i | ii | s | b
def SK.beq : SK → SK → Bool
 | .t, .t | .i, .i | .ii, .ii | .s, .s | .b, .b => true
 | _, _ => false
inductive SD
 | ts (l : List T) | is (l : List Int) | iss (l : List (List Int)) | ss (l : List ByteArray) | bs (l : List UInt8)
inductive SE
 | t (t : T) | i (n : Int) | ii (l : List Int) | s (x : ByteArray) | b (c : UInt8)
def SK.size : SK → Nat | .t => 3 | _ => 1
def SK.nil : SK → SD | .t => .ts [] | .i => .is [] | .ii => .iss [] | .s => .ss [] | .b => .bs []
def SD.kind : SD → SK | .ts _ => .t | .is _ => .i | .iss _ => .ii | .ss _ => .s | .bs _ => .b
def SD.len : SD → Nat | .ts l => l.length | .is l => l.length | .iss l => l.length | .ss l => l.length | .bs l => l.length
inductive SV
 | int (k : IntKind) (n : Int)
 | bool (b : Bool)
 | str (x : ByteArray)
 | emp (k : Option (TypeId × SK))
 | fr (d : SD)
 | own (j v : Nat)
 | ptr (j off : Nat)
 | ep (e : SE) (off : Nat)
 | op (j v i off : Nat)
 | fn (f : FuncId) (caps : List Nat)
 | nilp
 | any
inductive V1 | one (s : SV) | agg (l : List SV)
inductive AV | v (x : V1) | tup (l : List V1)
inductive AObj | cells (l : List SV) | arr (e : TypeId) (d : SD) (ver : Nat) (fz : Bool) | dead
structure AS where
 tmps : List AV
 heap : List AObj
abbrev OR := Option (List V1 × List AObj)
def anyV : AV := .v (.one .any)
def V1.cells : V1 → List SV | .one s => [s] | .agg l => l
def AV.cs : AV → Option (List SV)
 | .v (.one .any) => none
 | .v (.one s) => some [s]
 | .v (.agg l) => some l
 | .tup _ => none
def csL : List AV → Option (List (List SV))
 | [] => some []
 | v :: l => v.cs.bind fun c => (csL l).map (c :: ·)
def SE.cells : SE → List SV
 | .t x => [.int .i64 x.k, .int .i64 x.n, .fr (.ts x.kids)]
 | .i n => [.int .i64 n]
 | .ii l => [.fr (.is l)]
 | .s x => [.str x]
 | .b c => [.int .u8 (c.toNat : Int)]
def SD.get (d : SD) (i : Nat) (k : SE → OR) : OR :=
 match d with
 | .ts l => l[i]?.bind fun x => k (.t x)
 | .is l => l[i]?.bind fun x => k (.i x)
 | .iss l => l[i]?.bind fun x => k (.ii x)
 | .ss l => l[i]?.bind fun x => k (.s x)
 | .bs l => l[i]?.bind fun x => k (.b x)
def SD.app (d e : SD) (k : SD → OR) : OR :=
 match d, e with
 | .ts l, .ts m => k (.ts (l ++ m))
 | .is l, .is m => k (.is (l ++ m))
 | .iss l, .iss m => k (.iss (l ++ m))
 | .ss l, .ss m => k (.ss (l ++ m))
 | .bs l, .bs m => k (.bs (l ++ m))
 | _, _ => none
def SD.set (d : SD) (i : Nat) (e : SE) (k : SD → OR) : OR :=
 match d, e with
 | .ts l, .t x => k (.ts (l.set i x))
 | .is l, .i x => k (.is (l.set i x))
 | .iss l, .ii x => k (.iss (l.set i x))
 | .ss l, .s x => k (.ss (l.set i x))
 | .bs l, .b x => k (.bs (l.set i x))
 | _, _ => none
def SD.sub (d : SD) (lo hi : Nat) : SD :=
 match d with
 | .ts l => .ts ((l.take hi).drop lo)
 | .is l => .is ((l.take hi).drop lo)
 | .iss l => .iss ((l.take hi).drop lo)
 | .ss l => .ss ((l.take hi).drop lo)
 | .bs l => .bs ((l.take hi).drop lo)
def kind0 (P : Program) (e : TypeId) : Option SK :=
 match P.underlying e with
 | some (.struct _) => (match structT P e with | some 3 => some .t | _ => none)
 | some (.int .i64) => some .i
 | some (.int .u8) => some .b
 | some .string => some .s
 | some (.slice e') => (match P.underlying e' with | some (.int .i64) => some .ii | _ => none)
 | _ => none
def sizeOk (P : Program) (e : TypeId) (k : SK) : Bool := match P.info? e with
 | some i => (match i.zero with
  | some z => Nat.beq i.size k.size && (Nat.beq z.cells.size k.size && Nat.ble i.bytes 64)
  | none => false)
 | none => false
def kindE (P : Program) (e : TypeId) : Option SK := (kind0 P e).bind fun k => cond (sizeOk P e k) (some k) none
def kindS (P : Program) (t : TypeId) : Option (TypeId × SK) := match P.underlying t with | some (.slice e) => (kindE P e).map fun k => (e, k) | _ => none
def leaves (P : Program) : Nat → TypeId → List (Option (TypeId × SK))
 | 0, _ => [none]
 | n + 1, t => match P.underlying t with
  | some (.struct fs) => fs.toList.flatMap fun f => leaves P n f.type
  | some (.slice _) => [kindS P t]
  | _ => [none]
def svOf (k : Option (TypeId × SK)) : Value → SV
 | .int k n => .int k n
 | .bool b => .bool b
 | .string s => .str s
 | .slice none 0 0 => .emp k
 | .pointer none => .nilp
 | _ => .any
def svsOf : List (Option (TypeId × SK)) → List Value → List SV
 | k :: ks, v :: vs => svOf k v :: svsOf ks vs
 | [], v :: vs => svOf none v :: svsOf [] vs
 | _, [] => []
def AV.ofValue : Value → AV
 | .agg cs => cond (cs.toList.all oneB) (.v (.agg (svsOf [] cs.toList))) anyV
 | .tuple _ => anyV
 | x => .v (.one (svOf none x))
def retype (P : Program) (t : TypeId) : AV → AV
 | .v (.one (.emp none)) => .v (.one (.emp (kindS P t)))
 | .v (.agg l) => .v (.agg (go (leaves P 4 t) l))
 | x => x
where go : List (Option (TypeId × SK)) → List SV → List SV
 | k :: ks, .emp none :: l => .emp k :: go ks l
 | _ :: ks, x :: l => x :: go ks l
 | [], l => l
 | _, [] => []
def zeroS (P : Program) (t : TypeId) : Option (List SV) := (zeroB P t).bind fun z => cond (z.all oneB) (some (svsOf (leaves P 4 t) z)) none
def AS.ev (s : AS) : Operand → AV
 | .tmp t => s.tmps.getD t anyV
 | .const v => AV.ofValue v
 | .func f => .v (.one (.fn f []))
 | .global _ => anyV
def AS.put (s : AS) (d : Option Tmp) (v : AV) : AS :=
 match d with
 | some d => { s with tmps := s.tmps.set d v }
 | none => s
def readS (h : List AObj) (x : SV) (k : SD → OR) : OR :=
 match x with
 | .fr d => k d
 | .emp (some e) => k e.2.nil
 | .own j v => (match h[j]? with
  | some (.arr _ d ver _) => cond (Nat.beq v ver) (k d) none
  | _ => none)
 | _ => none
def sealS (h : List AObj) (x : SV) (k : SV → List AObj → OR) : OR :=
 match x with
 | .own j v => (match h[j]? with
  | some (.arr e d ver _) => cond (Nat.beq v ver) (k (.fr d) (h.set j (.arr e d ver true))) none
  | _ => none)
 | .emp (some e) => k (.fr e.2.nil) h
 | x => k x h
def sealL (h : List AObj) : List SV → (List SV → List AObj → OR) → OR
 | [], k => k [] h
 | x :: l, k => sealS h x fun x' h' => sealL h' l fun l' h'' => k (x' :: l') h''
def elemOf (e : SK) (l : List SV) (k : SE → OR) : OR :=
 match e, l with
 | .t, [.int .i64 a, .int .i64 b, .fr (.ts l)] => k (.t (.mk a b l))
 | .i, [.int .i64 a] => k (.i a)
 | .ii, [.fr (.is l)] => k (.ii l)
 | .s, [.str x] => k (.s x)
 | .b, [.int .u8 n] => cond (decide (0 ≤ n) && decide (n ≤ 255)) (k (.b (UInt8.ofNat n.toNat))) none
 | _, _ => none
def SD.snoc (d : SD) (e : SE) : Option SD :=
 match d, e with
 | .ts l, .t x => some (.ts (l ++ [x]))
 | .is l, .i x => some (.is (l ++ [x]))
 | .iss l, .ii x => some (.iss (l ++ [x]))
 | .ss l, .s x => some (.ss (l ++ [x]))
 | .bs l, .b x => some (.bs (l ++ [x]))
 | _, _ => none
def elemsOf (e : SK) (h : List AObj) : List (List SV) → SD → (SD → List AObj → OR) → OR
 | [], d, k => k d h
 | c :: cs, d, k => sealL h c fun c' h' => elemOf e c' fun x => (d.snoc x).bind fun d' => elemsOf e h' cs d' k
def packK (P : Program) (t : TypeId) (l : List SV) (k : AV → OR) : OR :=
 match scalarT P t with
 | true => (match l with | c :: _ => k (.v (.one c)) | [] => none)
 | false => (match structT P t with
  | some n => cond (Nat.ble n l.length) (k (.v (.agg (l.take n)))) none
  | none => none)
def evLoad (P : Program) (t : TypeId) (x : AV) (h : List AObj) (k : AV → OR) : OR :=
 match x with
 | .v (.one (.ptr j off)) => (match h[j]? with
  | some (.cells l) => packK P t (l.drop off) k
  | _ => none)
 | .v (.one (.ep e off)) => packK P t (e.cells.drop off) k
 | .v (.one (.op j v i off)) => (match h[j]? with
  | some (.arr _ d ver _) => cond (Nat.beq v ver) (d.get i fun e => packK P t (e.cells.drop off) k) none
  | _ => none)
 | _ => none
def putS (l : List SV) (off : Nat) : List SV → List SV
 | [] => l
 | c :: cs => putS (l.set off c) (off + 1) cs
def evStore (P : Program) (t : TypeId) (x y : AV) (h : List AObj) (k : List AObj → OR) : OR :=
 match (P.info? t).map (·.size) with
 | some m => y.cs.bind fun yc => (match x with
  | .v (.one (.ptr j off)) => (match h[j]? with
   | some (.cells l) => cond (Nat.beq m yc.length && Nat.ble (off + m) l.length) (k (h.set j (.cells (putS l off yc)))) none
   | _ => none)
  | .v (.one (.op j v i 0)) => sealL h yc fun c h => (match h[j]? with
   | some (.arr e d ver false) => cond (Nat.beq v ver && Nat.beq m d.kind.size) (elemOf d.kind c fun x => d.set i x fun d' => k (h.set j (.arr e d' ver false))) none
   | _ => none)
  | _ => none)
 | none => none
def ikEq (a b : IntKind) : Bool := decide (a = b)
def evInt (op : BinOp) (ka : IntKind) (a b : Int) (k : SV → OR) : OR :=
 match op with
 | .add => k (.int ka (ka.wrap (a + b)))
 | .sub => k (.int ka (ka.wrap (a - b)))
 | .mul => k (.int ka (ka.wrap (a * b)))
 | .quo => cond (decide (b = 0)) none (k (.int ka (ka.wrap (a.tdiv b))))
 | .rem => cond (decide (b = 0)) none (k (.int ka (a.tmod b)))
 | .xor => k (.int ka (ka.wrap (BitVec.ofInt ka.bits a ^^^ BitVec.ofInt ka.bits b).toNat))
 | .eql => k (.bool (decide (a = b)))
 | .neq => k (.bool (!decide (a = b)))
 | .lss => k (.bool (decide (a < b)))
 | .leq => k (.bool (decide (a ≤ b)))
 | .gtr => k (.bool (decide (b < a)))
 | .geq => k (.bool (decide (b ≤ a)))
 | _ => none
def evStr (op : BinOp) (a b : ByteArray) (k : SV → OR) : OR :=
 match op with
 | .add => cond (decide (a.size + b.size ≤ 9223372036854775807)) (k (.str (a ++ b))) none
 | .eql => k (.bool (a.toList == b.toList))
 | .neq => k (.bool (!(a.toList == b.toList)))
 | .gtr => k (.bool (!(Op.bytesLess a.toList b.toList || a.toList == b.toList)))
 | _ => none
def evBin (P : Program) (op : BinOp) (t : TypeId) (x y : AV) (k : SV → OR) : OR :=
 match x, y with
 | .v (.one (.int ka a)), .v (.one (.int kb b)) => cond (ikEq ka kb) (evInt op ka a b k) none
 | .v (.one (.str a)), .v (.one (.str b)) => evStr op a b k
 | .v (.one (.bool a)), .v (.one (.bool b)) => (match P.underlying t with
  | some .bool => (match op with
   | .eql => k (.bool (decide (a = b)))
   | .neq => k (.bool (!decide (a = b)))
   | _ => none)
  | _ => none)
 | _, _ => none
def evUn (op : UnOp) (x : AV) (k : SV → OR) : OR :=
 match op, x with
 | .not, .v (.one (.bool b)) => k (.bool (!b))
 | .neg, .v (.one (.int ka n)) => k (.int ka (ka.wrap (0 - n)))
 | _, _ => none
def evConv (P : Program) (t t' : TypeId) (x : AV) (h : List AObj) (k : SV → OR) : OR :=
 match x with
 | .v (.one (.int _ n)) => (match P.underlying t, P.underlying t' with
  | some (.int _), some (.int ka) => k (.int ka (ka.wrap n))
  | _, _ => none)
 | .v (.one x) => (match kindS P t, P.underlying t' with
  | some (_, .b), some .string => readS h x fun d => (match d with | .bs l => k (.str ⟨l.toArray⟩) | _ => none)
  | _, _ => none)
 | _ => none
def optInt (x : AV) (k : Int → OR) : OR := match x with | .v (.one (.int .i64 n)) => k n | _ => none
def inB (lo hi n : Int) : Bool := decide (0 ≤ lo) && (decide (lo ≤ hi) && decide (hi ≤ n))
def evSlice (P : Program) (t : TypeId) (x : AV) (lo hi mx : Option AV) (h : List AObj) (k : SV → List AObj → OR) : OR :=
 match mx with
 | some mx => cond (kindS P t).isSome (optInt mx fun m => (match hi, lo with
  | some hi, none => optInt hi fun n => cond (decide (m = 0) && decide (n = 0)) (match x with
   | .v (.one (.fr d)) => cond (kindEq (kindS P t) d.kind) (k (.emp (kindS P t)) h) none
   | .v (.one (.own j v)) => (match h[j]? with
    | some (.arr _ d ver _) => cond (Nat.beq v ver && kindEq (kindS P t) d.kind) (k (.emp (kindS P t)) h) none
    | _ => none)
   | .v (.one (.emp e)) => (k (.emp (kindS P t)) h)
   | _ => none) none
  | some hi, some lo => optInt hi fun n => optInt lo fun l => cond (decide (m = 0) && (decide (n = 0) && decide (l = 0))) (match x with
   | .v (.one (.fr d)) => cond (kindEq (kindS P t) d.kind) (k (.emp (kindS P t)) h) none
   | .v (.one (.own j v)) => (match h[j]? with
    | some (.arr _ d ver _) => cond (Nat.beq v ver && kindEq (kindS P t) d.kind) (k (.emp (kindS P t)) h) none
    | _ => none)
   | .v (.one (.emp e)) => (k (.emp (kindS P t)) h)
   | _ => none) none
  | _, _ => none)) none
 | none => (match x with
  | .v (.one (.str a)) => (match P.underlying t with
   | some .string => bounds lo hi a.size fun l n => k (.str (a.extract l.toNat n.toNat)) h
   | _ => none)
  | .v (.one x) => (match kindS P t with
   | some e => sealS h x fun x' h' => (match x' with
    | .fr d => cond (SK.beq e.2 d.kind) (bounds lo hi d.len fun l n => k (.fr (d.sub l.toNat n.toNat)) h') none
    | _ => none)
   | none => none)
  | _ => none)
where
 kindEq : Option (TypeId × SK) → SK → Bool
  | some a, c => SK.beq a.2 c
  | none, _ => false
 bounds (lo hi : Option AV) (n : Nat) (k : Int → Int → OR) : OR :=
  match lo, hi with
  | none, none => k 0 n
  | some lo, none => optInt lo fun l => cond (inB l n n) (k l n) none
  | none, some hi => optInt hi fun m => cond (inB 0 m n) (k 0 m) none
  | some lo, some hi => optInt lo fun l => optInt hi fun m => cond (inB l m n) (k l m) none
def evIndexAddr (P : Program) (t : TypeId) (x y : AV) (h : List AObj) (k : SV → OR) : OR :=
 match kindS P t with
 | none => none
 | some e => optInt y fun i => cond (decide (0 ≤ i)) (match x with
  | .v (.one (.fr d)) => cond (SK.beq e.2 d.kind) (d.get i.toNat fun x => k (.ep x 0)) none
  | .v (.one (.own j v)) => (match h[j]? with
   | some (.arr _ d ver _) => cond (Nat.beq v ver && SK.beq e.2 d.kind) (cond (decide (i < d.len)) (k (.op j v i.toNat 0)) none) none
   | _ => none)
  | _ => none) none
def evLen (P : Program) (t : TypeId) (x : AV) (h : List AObj) (k : SV → OR) : OR :=
 match x with
 | .v (.one (.str a)) => (match P.underlying t with | some .string => k (.int .i64 (a.size : Int)) | _ => none)
 | .v (.one (.emp _)) => (match kindS P t with | some _ => k (.int .i64 0) | none => none)
 | .v (.one x) => (match kindS P t with | some _ => readS h x fun d => k (.int .i64 (d.len : Int)) | none => none)
 | _ => none
def roomB (n : Nat) : Bool := decide (n ≤ 1099511627776)
def evAppend (P : Program) (t : TypeId) (x y : AV) (h : List AObj) (sl : Nat) (k : SV → List AObj → OR) : OR :=
 match kindS P t with
 | none => none
 | some e => (match y with
  | .v (.one y) => readS h y fun d' => cond (SK.beq e.2 d'.kind) (match x with
   | .v (.one (.own j v)) => (match h[j]? with
    | some (.arr e' d ver false) => cond (Nat.beq v ver && Nat.beq e.1 e') (d.app d' fun d'' => cond (roomB d''.len) (k (.own j (ver + 1)) (h.set j (.arr e' d'' (ver + 1) false))) none) none
    | _ => none)
   | .v (.one (.emp _)) => cond (roomB d'.len) (k (.own sl 0) (h.set sl (.arr e.1 d' 0 false))) none
   | _ => none) none
  | _ => none)
def zeroIs (P : Program) (e : TypeId) (k : SK) : Bool :=
 match zeroB P e, k with
 | some [.int .i64 a, .int .i64 b, .slice none 0 0], .t => decide (a = 0) && decide (b = 0)
 | some [.int .i64 a], .i => decide (a = 0)
 | some [.string x], .s => decide (x = ByteArray.empty)
 | some [.int .u8 a], .b => decide (a = 0)
 | _, _ => false
def zeros (n : Nat) : SK → Option SD
 | .t => some (.ts (List.replicate n (.mk 0 0 [])))
 | .i => some (.is (List.replicate n 0))
 | .ii => none
 | .s => some (.ss (List.replicate n ByteArray.empty))
 | .b => some (.bs (List.replicate n 0))
def evMake (P : Program) (t : TypeId) (x y : AV) (h : List AObj) (sl : Nat) (k : SV → List AObj → OR) : OR :=
 optInt x fun n => optInt y fun m => cond (decide (n = m) && (decide (0 ≤ n) && decide (n ≤ 4194304))) (match kindS P t with
  | some e => cond (zeroIs P e.1 e.2) ((zeros n.toNat e.2).bind fun d => k (.own sl 0) (h.set sl (.arr e.1 d 0 false))) none
  | none => none) none
def liveC (h : List AObj) (j : Nat) : Bool := match h[j]? with | some (.cells _) => true | _ => false
def liveA (h : List AObj) (j v : Nat) : Bool := match h[j]? with | some (.arr _ _ ver _) => Nat.beq v ver | _ => false
def evField (h : List AObj) (d : Nat) (v : AV) (k : SV → OR) : OR :=
 match v with
 | .v (.one (.ptr j o)) => cond (liveC h j) (k (.ptr j (o + d))) none
 | .v (.one (.ep e o)) => k (.ep e (o + d))
 | .v (.one (.op j v n o)) => cond (liveA h j v) (k (.op j v n (o + d))) none
 | _ => none
def evNil (h : List AObj) (v : AV) (k : SV → OR) : OR :=
 match v with
 | .v (.one (.ptr j o)) => cond (liveC h j) (k (.ptr j o)) none
 | .v (.one (.ep e o)) => k (.ep e o)
 | .v (.one (.op j v n o)) => cond (liveA h j v) (k (.op j v n o)) none
 | .v (.one (.fn f l)) => k (.fn f l)
 | _ => none
def evIndex (P : Program) (t : TypeId) (x y : AV) (k : SV → OR) : OR :=
 match x with
 | .v (.one (.str a)) => optInt y fun n => cond (decide (0 ≤ n) && decide (n < a.size)) (match P.underlying t with
    | some .string => k (.int .u8 ((byteAt a n.toNat).toNat : Int))
    | _ => none) none
 | _ => none
def evExtract (x : AV) (i : Nat) (k : AV → OR) : OR := match x with | .tup l => l[i]?.bind fun x => k (.v x) | _ => none
def evMax (mx : Bool) (x y : AV) (k : SV → OR) : OR :=
 match x, y with
 | .v (.one (.int a x)), .v (.one (.int b y)) => cond (ikEq a b) (k (.int a (cond mx (max x y) (min x y)))) none
 | _, _ => none
def capsOf (h : List AObj) : List AV → Option (List Nat)
 | [] => some []
 | .v (.one (.ptr j 0)) :: l => cond (liveC h j) ((capsOf h l).map (j :: ·)) none
 | _ => none
end Go.Ab
namespace Go.Ab
open Go Go.Dk
def refsS : SV → List Nat
 | .own j _ => [j]
 | .ptr j _ => [j]
 | .op j _ _ _ => [j]
 | .fn _ l => l
 | _ => []
def refsO : Option AObj → List Nat
 | some (.cells l) => l.flatMap refsS
 | _ => []
def hasN (j : Nat) : List Nat → Bool
 | [] => false
 | i :: l => Nat.beq j i || hasN j l
def reach (h : List AObj) : Nat → List Nat → List Nat → List Nat
 | 0, _, seen => seen
 | _, [], seen => seen
 | n + 1, j :: todo, seen => cond (hasN j seen) (reach h n todo seen) (reach h n (refsO h[j]? ++ todo) (seen ++ [j]))
def idx (j : Nat) : List Nat → Option Nat
 | [] => none
 | i :: l => cond (Nat.beq j i) (some 0) ((idx j l).map (· + 1))
def idxs (js : List Nat) : List Nat → Option (List Nat)
 | [] => some []
 | j :: l => (idx j js).bind fun i => (idxs js l).map (i :: ·)
def renS (js : List Nat) : SV → SV
 | .own j v => (match idx j js with | some i => .own i v | none => .any)
 | .ptr j o => (match idx j js with | some i => .ptr i o | none => .any)
 | .op j v i o => (match idx j js with | some j => .op j v i o | none => .any)
 | .fn f l => (match idxs js l with | some l => .fn f l | none => .any)
 | x => x
def renV (js : List Nat) : V1 → V1 | .one s => .one (renS js s) | .agg l => .agg (l.map (renS js))
def renA (js : List Nat) : AV → AV | .v x => .v (renV js x) | .tup l => .tup (l.map (renV js))
def renO (js : List Nat) : AObj → AObj | .cells l => .cells (l.map (renS js)) | o => o
def selH (js : List Nat) (h : List AObj) : List AObj := js.map fun j => renO js (h.getD j .dead)
def refsV : V1 → List Nat | .one s => refsS s | .agg l => l.flatMap refsS
def refsA : AV → List Nat | .v x => refsV x | .tup l => l.flatMap refsV
def clean : SV → SV
 | .own _ _ => .any
 | .ptr _ _ => .any
 | .op _ _ _ _ => .any
 | .fn _ _ => .any
 | x => x
def outC (own : Bool) : List SV → List AObj → Nat → (List SV → List AObj → List AObj → OR) → OR
 | [], h, _, k => k [] h []
 | .own j v :: l, h, b, k => (match h[j]? with
  | some (.arr e d ver fz) => cond (Nat.beq v ver) (cond own
     (cond fz none (outC own l (h.set j .dead) (b + 1) fun cs h os => k (.own b 0 :: cs) h (.arr e d 0 false :: os)))
     (outC own l (h.set j (.arr e d ver true)) b fun cs h os => k (.fr d :: cs) h os)) none
  | _ => none)
 | .emp (some e) :: l, h, b, k => cond own
    (outC own l h (b + 1) fun cs h os => k (.own b 0 :: cs) h (.arr e.1 e.2.nil 0 false :: os))
    (outC own l h b fun cs h os => k (.fr e.2.nil :: cs) h os)
 | .ptr j 0 :: l, h, b, k => (match h[j]? with
  | some (.cells c) => sealL h c fun c h => outC own l (h.set j .dead) (b + 1) fun cs h os => k (.ptr b 0 :: cs) h (.cells (c.map clean) :: os)
  | _ => none)
 | .int a n :: l, h, b, k => outC own l h b fun cs h os => k (.int a n :: cs) h os
 | .bool x :: l, h, b, k => outC own l h b fun cs h os => k (.bool x :: cs) h os
 | .str x :: l, h, b, k => outC own l h b fun cs h os => k (.str x :: cs) h os
 | .fr x :: l, h, b, k => outC own l h b fun cs h os => k (.fr x :: cs) h os
 | _ :: l, h, b, k => outC own l h b fun cs h os => k (.any :: cs) h os
def outO (m : Nat) : Nat → List AObj → (List AObj → OR) → OR
 | 0, h, k => k []
 | n + 1, h, k => (match h[m - (n + 1)]? with
  | some (.cells c) => sealL h c fun c h => outO m n h fun os => k (.cells (c.map clean) :: os)
  | _ => outO m n h fun os => k (.dead :: os))
def outVs (own : Bool) : List V1 → List AObj → Nat → (List V1 → List AObj → List AObj → OR) → OR
 | [], h, _, k => k [] h []
 | .one .any :: l, h, b, k => outVs own l h b fun vs h os => k (.one .any :: vs) h os
 | .one x :: l, h, b, k => outC own [x] h b fun c h os => (match c with
  | [x] => outVs own l h (b + os.length) fun vs h os' => k (.one x :: vs) h (os ++ os')
  | _ => none)
 | .agg c :: l, h, b, k => outC own c h b fun c h os => outVs own l h (b + os.length) fun vs h os' => k (.agg c :: vs) h (os ++ os')
def resC (P : Program) (s : AS) : List ResultVar → (List V1 → OR) → OR
 | [], k => k []
 | .tmp t :: l, k => (match s.tmps.getD t anyV with
  | .v x => resC P s l fun vs => k (x :: vs)
  | _ => none)
 | .cell a t :: l, k => evLoad P t (s.tmps.getD a anyV) s.heap fun v => (match v with
  | .v x => resC P s l fun vs => k (x :: vs)
  | _ => none)
def finish (P : Program) (own : Bool) (fn : Func) (m : Nat) (s : AS) : OR :=
 cond (Nat.ble m s.heap.length) (resC P s fn.results.toList fun vs => outVs own vs s.heap m fun vs h os => outO m m h fun ps => some (vs, ps ++ os)) none
def intC (a : IntKind) (l : List SV) (k : Int → List SV → OR) : OR := match l with | .int b n :: l => cond (ikEq a b) (k n l) none | _ => none
def boolC (l : List SV) (k : Bool → List SV → OR) : OR := match l with | .bool b :: l => k b l | _ => none
def strC (l : List SV) (k : ByteArray → List SV → OR) : OR := match l with | .str x :: l => k x l | _ => none
def tsC (l : List SV) (k : List T → List SV → OR) : OR := match l with | .fr (.ts x) :: l => k x l | _ => none
def isC (l : List SV) (k : List Int → List SV → OR) : OR := match l with | .fr (.is x) :: l => k x l | _ => none
def issC (l : List SV) (k : List (List Int) → List SV → OR) : OR := match l with | .fr (.iss x) :: l => k x l | _ => none
def ssC (l : List SV) (k : List ByteArray → List SV → OR) : OR := match l with | .fr (.ss x) :: l => k x l | _ => none
def bsC (l : List SV) (k : List UInt8 → List SV → OR) : OR := match l with | .fr (.bs x) :: l => k x l | _ => none
def anyC (l : List SV) (k : List SV → OR) : OR := match l with | _ :: l => k l | _ => none
def nilC (l : List SV) (k : OR) : OR := match l with | [] => k | _ => none
def slC (e : SK) (l : List SV) (k : SD → List SV → OR) : OR :=
 match e with
 | .t => tsC l fun x l => k (.ts x) l
 | .i => isC l fun x l => k (.is x) l
 | .ii => issC l fun x l => k (.iss x) l
 | .s => ssC l fun x l => k (.ss x) l
 | .b => bsC l fun x l => k (.bs x) l
def rInt (a : IntKind) (l : List V1) (k : Int → List V1 → OR) : OR := match l with | .one (.int b n) :: l => cond (ikEq a b) (k n l) none | _ => none
def rBool (l : List V1) (k : Bool → List V1 → OR) : OR := match l with | .one (.bool b) :: l => k b l | _ => none
def rStr (l : List V1) (k : ByteArray → List V1 → OR) : OR := match l with | .one (.str x) :: l => k x l | _ => none
def rTs (l : List V1) (k : List T → List V1 → OR) : OR := match l with | .one (.fr (.ts x)) :: l => k x l | _ => none
def rIs (l : List V1) (k : List Int → List V1 → OR) : OR := match l with | .one (.fr (.is x)) :: l => k x l | _ => none
def rIss (l : List V1) (k : List (List Int) → List V1 → OR) : OR := match l with | .one (.fr (.iss x)) :: l => k x l | _ => none
def rSs (l : List V1) (k : List ByteArray → List V1 → OR) : OR := match l with | .one (.fr (.ss x)) :: l => k x l | _ => none
def rBs (l : List V1) (k : List UInt8 → List V1 → OR) : OR := match l with | .one (.fr (.bs x)) :: l => k x l | _ => none
def rTerm (l : List V1) (k : T → List V1 → OR) : OR := match l with | .agg [.int .i64 a, .int .i64 b, .fr (.ts x)] :: l => k (.mk a b x) l | _ => none
def rOwnT (j : Nat) (l : List V1) (k : Int → Int → List V1 → OR) : OR := match l with | .agg [.int .i64 a, .int .i64 b, .own i 0] :: l => cond (Nat.beq i j) (k a b l) none | _ => none
def rOwn (j : Nat) (l : List V1) (k : List V1 → OR) : OR := match l with | .one (.own i 0) :: l => cond (Nat.beq i j) (k l) none | _ => none
def rPtr (j : Nat) (l : List V1) (k : List V1 → OR) : OR := match l with | .one (.ptr i 0) :: l => cond (Nat.beq i j) (k l) none | _ => none
def nilV (l : List V1) (k : OR) : OR := match l with | [] => k | _ => none
def rSl (e : SK) (l : List V1) (k : SD → List V1 → OR) : OR :=
 match e with
 | .t => rTs l fun x l => k (.ts x) l
 | .i => rIs l fun x l => k (.is x) l
 | .ii => rIss l fun x l => k (.iss x) l
 | .s => rSs l fun x l => k (.ss x) l
 | .b => rBs l fun x l => k (.bs x) l
def objC (o : List AObj) (k : List SV → List AObj → OR) : OR := match o with | .cells l :: o => k l o | _ => none
def dropC (o : List AObj) (k : List AObj → OR) : OR := match o with | _ :: o => k o | _ => none
def arrTsC (e : TypeId) (o : List AObj) (k : List T → List AObj → OR) : OR := match o with | .arr e' (.ts x) 0 false :: o => cond (Nat.beq e e') (k x o) none | _ => none
def arrIsC (e : TypeId) (o : List AObj) (k : List Int → List AObj → OR) : OR := match o with | .arr e' (.is x) 0 false :: o => cond (Nat.beq e e') (k x o) none | _ => none
def arrIssC (e : TypeId) (o : List AObj) (k : List (List Int) → List AObj → OR) : OR := match o with | .arr e' (.iss x) 0 false :: o => cond (Nat.beq e e') (k x o) none | _ => none
def arrSsC (e : TypeId) (o : List AObj) (k : List ByteArray → List AObj → OR) : OR := match o with | .arr e' (.ss x) 0 false :: o => cond (Nat.beq e e') (k x o) none | _ => none
def arrBsC (e : TypeId) (o : List AObj) (k : List UInt8 → List AObj → OR) : OR := match o with | .arr e' (.bs x) 0 false :: o => cond (Nat.beq e e') (k x o) none | _ => none
def arrC (e : TypeId × SK) (o : List AObj) (k : SD → List AObj → OR) : OR :=
 match e.2 with
 | .t => arrTsC e.1 o fun x o => k (.ts x) o
 | .i => arrIsC e.1 o fun x o => k (.is x) o
 | .ii => arrIssC e.1 o fun x o => k (.iss x) o
 | .s => arrSsC e.1 o fun x o => k (.ss x) o
 | .b => arrBsC e.1 o fun x o => k (.bs x) o
def nilO (o : List AObj) (k : OR) : OR := match o with | [] => k | _ => none
def likeC (x : SV) (l : List SV) (k : SV → List SV → OR) : OR :=
 match x with
 | .int a _ => intC a l fun n l => k (.int a n) l
 | .bool _ => boolC l fun n l => k (.bool n) l
 | .str _ => strC l fun n l => k (.str n) l
 | .fr d => slC d.kind l fun d l => k (.fr d) l
 | .emp (some e) => slC e.2 l fun d l => k (.fr d) l
 | _ => anyC l fun l => k .any l
def likeL : List SV → List SV → (List SV → OR) → OR
 | [], l, k => nilC l (k [])
 | x :: xs, l, k => likeC x l fun y l => likeL xs l fun ys => k (y :: ys)
def backO : List AObj → List AObj → (List AObj → List AObj → OR) → OR
 | [], o, k => k [] o
 | .cells x :: xs, o, k => objC o fun l o => likeL x l fun y => backO xs o fun ys o => k (.cells y :: ys) o
 | _ :: xs, o, k => dropC o fun o => backO xs o fun ys o => k (.dead :: ys) o
def valT (P : Program) (own : Bool) (c b : Nat) (t : TypeId) (l : List V1) (o : List AObj) (k : V1 → List AObj → List V1 → List AObj → OR) : OR :=
 match P.underlying t with
 | some (.int a) => rInt a l fun n l => k (.one (.int a n)) [] l o
 | some .bool => rBool l fun n l => k (.one (.bool n)) [] l o
 | some .string => rStr l fun n l => k (.one (.str n)) [] l o
 | some (.slice _) => (match kindS P t with
  | some e => cond own (rOwn c l fun l => arrC e o fun d o => k (.one (.own b 0)) [.arr e.1 d 0 false] l o) (rSl e.2 l fun d l => k (.one (.fr d)) [] l o)
  | none => none)
 | some (.struct _) => (match kindE P t with
  | some .t => cond own (rOwnT c l fun x y l => arrTsC t o fun d o => k (.agg [.int .i64 x, .int .i64 y, .own b 0]) [.arr t (.ts d) 0 false] l o)
     (rTerm l fun x l => k (.agg [.int .i64 x.k, .int .i64 x.n, .fr (.ts x.kids)]) [] l o)
  | _ => none)
 | some (.pointer e) => rPtr c l fun l => objC o fun y o => (match zeroS P e with
  | some z => likeL z y fun y => k (.one (.ptr b 0)) [.cells y] l o
  | none => none)
 | _ => none
def valsT (P : Program) (own : Bool) : List TypeId → Nat → Nat → List V1 → List AObj → (List V1 → List AObj → OR) → OR
 | [], _, _, l, o, k => nilV l (nilO o (k [] []))
 | t :: ts, c, b, l, o, k => valT P own c b t l o fun v n l o => valsT P own ts (c + n.length) (b + n.length) l o fun vs ns => k (v :: vs) (n ++ ns)
structure Dec where
 own : FuncId → Bool
 ib : FuncId → Bool
abbrev Callee := FuncId → List V1 → List AObj → OR
def tupV : List V1 → AV
 | [x] => .v x
 | l => .tup l
def backH : List Nat → List AObj → List AObj → List AObj
 | j :: js, o :: os, h => backH js os (h.set j o)
 | _, _, h => h
def putO (b : Nat) (os h : List AObj) : List AObj := backH (List.range' b os.length) os h
def news (P : Program) (own : Bool) : List TypeId → Nat
 | [] => 0
 | t :: ts => (match P.underlying t with
  | some (.pointer _) => 1
  | some (.slice _) => cond own 1 0
  | some (.struct _) => cond own 1 0
  | _ => 0) + news P own ts
def sealVs (h : List AObj) : List V1 → (List V1 → List AObj → OR) → OR
 | [], k => k [] h
 | .one .any :: l, k => sealVs h l fun vs h => k (.one .any :: vs) h
 | .one x :: l, k => sealS h x fun x h => sealVs h l fun vs h => k (.one x :: vs) h
 | .agg c :: l, k => sealL h c fun c h => sealVs h l fun vs h => k (.agg c :: vs) h
def v1L : List AV → Option (List V1)
 | [] => some []
 | .v x :: l => (v1L l).map (x :: ·)
 | .tup _ :: _ => none
def nodupB : List Nat → Bool
 | [] => true
 | j :: l => !hasN j l && nodupB l
def okJs (js : List Nat) (n : Nat) : Bool := nodupB js && js.all fun j => Nat.blt j n
def callGo (P : Program) (F : Callee) (ow : Bool) (f : FuncId) (tys : List TypeId) (sl rm : Nat) (k : AV → List AObj → OR) (args : List V1) (h : List AObj) : OR :=
 let js := reach h 64 (args.flatMap refsV) []
 cond (okJs js sl) (let hh := selH js h
  (F f (args.map (renV js)) hh).bind fun r => backO hh r.2 fun os o => valsT P ow tys js.length sl r.1 o fun vs ns =>
   cond (Nat.ble ns.length rm) (k (tupV vs) (putO sl ns (backH js os h))) none) none
def callK (P : Program) (F : Callee) (D : Dec) (f : FuncId) (args : List V1) (h : List AObj) (sl rm : Nat) (k : AV → List AObj → OR) : OR :=
 match P.funcs[f]? with
 | none => none
 | some fn => cond (callB P f) (cond (D.own f) (callGo P F true f fn.resultTypes.toList sl rm k args h) (sealVs h args (callGo P F false f fn.resultTypes.toList sl rm k))) none
def evBuiltin (P : Program) (b : Builtin) (args : List AV) (tys : List TypeId) (h : List AObj) (sl : Nat) (k : AV → List AObj → OR) : OR :=
 match b, args, tys with
 | .len, [x], [t] => evLen P t x h fun v => k (.v (.one v)) h
 | .append, [x, y], [t, t'] => cond (Nat.beq t t') (evAppend P t x y h sl fun v h => k (.v (.one v)) h) none
 | .max, [x, y], _ => evMax true x y fun v => k (.v (.one v)) h
 | .min, [x, y], _ => evMax false x y fun v => k (.v (.one v)) h
 | _, _, _ => none
def natIx : Nat → List (Nat × Operand) → Bool
 | _, [] => true
 | n, p :: l => Nat.beq p.1 n && natIx (n + 1) l
def placesT (P : Program) (t : TypeId) : Option (List (Nat × Nat)) := match P.underlying t with
 | some (.struct fs) => fs.toList.mapM fun f => (P.info? f.type).map fun i => (f.offset, i.size)
 | _ => none
def buildS (pl : List (Nat × Nat)) : List SV → List (Nat × AV) → Option (List SV)
 | z, [] => some z
 | z, p :: l => pl[p.1]?.bind fun o => p.2.cs.bind fun c => cond (Nat.beq c.length o.2 && Nat.ble (o.1 + o.2) z.length) (buildS pl (putS z o.1 c) l) none
def evBuild (P : Program) (t : TypeId) (ps : List (Nat × AV)) (k : AV → OR) : OR :=
 (placesT P t).bind fun pl => (zeroS P t).bind fun z => (buildS pl z ps).bind fun c => k (.v (.agg c))
def nObj (P : Program) (D : Dec) (o : Oper) : Nat :=
 match o.op with
 | .alloc _ | .box .. | .buildSlice .. | .makeSlice .. => 1
 | .call c => (match c.callee with
  | .builtin .append => 1
  | .value (.func f) => (match P.funcs[f]? with | some fn => news P (D.own f) fn.resultTypes.toList | none => 0)
  | _ => 0)
 | _ => 0
def evOp (P : Program) (F : Callee) (D : Dec) (o : Oper) (ρ : Operand → AV) (h : List AObj) (sl : Nat) (k : AV → List AObj → OR) : OR :=
 match o.op with
 | .move x => k (retype P o.type (ρ x)) h
 | .assign x => k (retype P o.type (ρ x)) h
 | .pick c a b => (match ρ c with | .v (.one (.bool t)) => cond t (k (ρ a) h) (k (ρ b) h) | _ => none)
 | .alloc e => (zeroS P e).bind fun z => k (.v (.one (.ptr sl 0))) (h.set sl (.cells z))
 | .box e x => (ρ x).cs.bind fun c => k (.v (.one (.ptr sl 0))) (h.set sl (.cells c))
 | .build t ps => evBuild P t (ps.toList.map fun p => (p.1, ρ p.2)) fun v => k v h
 | .buildSlice t n ps => (match kindS P t with
  | some e => cond (natIx 0 ps.toList && (Nat.beq ps.toList.length n && Nat.ble n 4194304))
   ((csL (ps.toList.map fun p => ρ p.2)).bind fun cs => elemsOf e.2 h cs e.2.nil fun d h => k (.v (.one (.own sl 0))) (h.set sl (.arr e.1 d 0 false))) none
  | none => none)
 | .load t x => evLoad P t (ρ x) h fun v => k v h
 | .store t x y => evStore P t (ρ x) (ρ y) h fun h => k anyV h
 | .nilCheck x => evNil h (ρ x) fun v => k (.v (.one v)) h
 | .binOp op t x y _ => evBin P op t (ρ x) (ρ y) fun v => k (.v (.one v)) h
 | .unOp op t x => evUn op (ρ x) fun v => k (.v (.one v)) h
 | .convert t t' x => evConv P t t' (ρ x) h fun v => k (.v (.one v)) h
 | .makeFunc fn first caps => (match fn, first.toList with
  | .func f, [] => (capsOf h (caps.toList.map ρ)).bind fun l => k (.v (.one (.fn f l))) h
  | _, _ => none)
 | .makeSlice t x y => evMake P t (ρ x) (ρ y) h sl fun v h => k (.v (.one v)) h
 | .slice t x lo hi mx => evSlice P t (ρ x) (lo.map ρ) (hi.map ρ) (mx.map ρ) h fun v h => k (.v (.one v)) h
 | .fieldAddr t x i => (fieldOff P t i).bind fun d => evField h d (ρ x) fun v => k (.v (.one v)) h
 | .indexAddr t x i => evIndexAddr P t (ρ x) (ρ i) h fun v => k (.v (.one v)) h
 | .index t x i => evIndex P t (ρ x) (ρ i) fun v => k (.v (.one v)) h
 | .extract x i => evExtract (ρ x) i fun v => k v h
 | .call c => (match c.callee with
  | .builtin b => evBuiltin P b (c.args.toList.map ρ) c.argTypes.toList h sl k
  | .value (.func f) => cond (D.ib f) (match c.args.toList.map ρ with
     | [.v (.one (.str a)), .v (.one (.int .u8 n))] => cond (decide (0 ≤ n) && decide (n ≤ 255)) (k (.v (.one (.int .i64 (idxB a (UInt8.ofNat n.toNat))))) h) none
     | _ => none) ((v1L (c.args.toList.map ρ)).bind fun l => callK P F D f l h sl (nObj P D o) k)
  | .value x => (match ρ x with
   | .v (.one (.fn f l)) => (v1L (c.args.toList.map ρ)).bind fun vs => callK P F D f (vs ++ l.map fun j => .one (.ptr j 0)) h sl (nObj P D o) k
   | _ => none)
  | _ => none)
 | _ => none
def boolV (b : Bool) : AV := .v (.one (.bool b))
def undV : AV := .tup []
def wantK (ops : List Oper) (s : AS) (g : Option (Nat × Bool)) (yes no : AS → OR) : OR :=
 match g with
 | none => yes s
 | some (j, want) => (match ops[j]?.bind (·.dst) with
  | some d => (match s.tmps.getD d anyV with
   | .v (.one (.bool b)) => cond b (cond want (yes (s.put (some d) (boolV true))) (no (s.put (some d) (boolV true))))
      (cond want (no (s.put (some d) (boolV false))) (yes (s.put (some d) (boolV false))))
   | .tup [] => no s
   | _ => none)
  | none => none)
noncomputable def same (a b : OR) : OR := by classical exact if a = b then a else none
theorem same_out {a b : OR} {r : List V1 × List AObj} (h : same a b = some r) : a = some r ∧ b = some r := by
 unfold same at h
 split at h
 ·rename_i e; subst e; exact ⟨h, h⟩
 ·cases h
def nilQ (P : Program) (o : Oper) (ρ : Operand → AV) : Option Nat :=
 match o.op with
 | .binOp .eql t x (.const (.slice none 0 0)) _ => (match kindS P t, ρ x with
  | some _, .v (.one (.fr d)) => some d.len
  | _, _ => none)
 | _ => none
noncomputable def evOps (P : Program) (F : Callee) (D : Dec) (ops : List Oper) : List Oper → Nat → AS → (AS → OR) → OR
 | [], _, s, k => k s
 | o :: l, b, s, k => wantK ops s o.guard
    (fun s => match nilQ P o s.ev with
     | some m => cond (Nat.beq m 0)
        (same (evOps P F D ops l (b + nObj P D o) (s.put o.dst (boolV true)) k) (evOps P F D ops l (b + nObj P D o) (s.put o.dst (boolV false)) k))
        (evOps P F D ops l (b + nObj P D o) (s.put o.dst (boolV false)) k)
     | none => evOp P F D o s.ev s.heap b fun v h => evOps P F D ops l (b + nObj P D o) ({ s with heap := h }.put o.dst v) k)
    (fun s => evOps P F D ops l (b + nObj P D o) (s.put o.dst undV) k)
def room (P : Program) (D : Dec) : List Oper → Nat
 | [] => 0
 | o :: l => nObj P D o + room P D l
def grow (n : Nat) (s : AS) : AS := { s with heap := s.heap ++ List.replicate n .dead }
def onlyH (js : List Nat) : Nat → List AObj → List AObj
 | _, [] => []
 | i, o :: h => cond (hasN i js) o .dead :: onlyH js (i + 1) h
def mixH (js : List Nat) : Nat → List AObj → List AObj → List AObj
 | i, o :: h, o' :: h' => cond (hasN i js) o' o :: mixH js (i + 1) h h'
 | _, h, _ => h
structure Done where
 i : Nat
 fp : List Nat
 wr : List Nat
def meets (a b : List Nat) : Bool := a.any fun x => hasN x b
def ahead (acc : List (List Nat)) (o : Oper) : List Nat :=
 o.after.toList.flatMap fun e => cond (Region.binds .any e) (e.on :: acc.getD e.on []) []
def ancL : List Oper → List (List Nat) → List (List Nat)
 | [], acc => acc
 | o :: l, acc => ancL l (acc ++ [ahead acc o])
def looksT (ops : List Oper) (o : Oper) : List Nat :=
 (o.op.operands.toList.flatMap fun x => match x with | .tmp t => [t] | _ => []) ++
 (match o.guard with
  | some (g, _) => (match ops[g]?.bind (·.dst) with | some d => [d] | none => [])
  | none => [])
def dstL (o : Oper) : List Nat := match o.dst with | some d => [d] | none => []
def apartT (ops : List Oper) (x y : Oper) : Bool := !meets (dstL x) (looksT ops y) && (!meets (dstL x) (dstL y) && !meets (dstL y) (looksT ops x))
def plainB (o : Oper) : Bool := match o.op with | .select .. => false | _ => true
def edgesB (an : List (List Nat)) (i : Nat) (o : Oper) : Bool :=
 (o.after.toList.all fun e => cond (Region.binds .any e) (Nat.blt e.on i) true) &&
 (an.getD i []).all fun a => o.after.toList.any fun e => Region.binds .any e && (Nat.beq a e.on || hasN a (an.getD e.on []))
def earlierB (ops : List Oper) (anc : List Nat) (i : Nat) (o : Oper) : List Oper → Nat → Bool
 | [], _ => true
 | x :: l, k => cond (Nat.blt k i) ((hasN k anc || apartT ops x o) && earlierB ops anc i o l (k + 1)) true
def drawB (ops : List Oper) (an : List (List Nat)) : List Oper → Nat → Bool
 | [], _ => true
 | o :: l, i => plainB o && (edgesB an i o && (earlierB ops (an.getD i []) i o ops 0 && drawB ops an l (i + 1)))
def okDone (anc : List Nat) (fp wr : List Nat) (d : Done) : Bool := hasN d.i anc || (!meets d.wr fp && !meets wr d.fp)
def writes (o : Oper) (fp : List Nat) (b n : Nat) : List Nat :=
 (match o.op with
 | .store .. => fp
 | .buildSlice .. => fp
 | .slice .. => fp
 | .call c => (match c.callee with | .builtin .append => fp | .builtin _ => [] | _ => fp)
 | _ => []) ++ List.range' b n
def closB (h : List AObj) (fp rf : List Nat) : Bool := rf.all (hasN · fp) && fp.all fun j => (refsO h[j]?).all (hasN · fp)
def refsOf (s : AS) (o : Oper) : List Nat := o.op.operands.toList.flatMap fun x => refsA (s.ev x)
def lightB (o : Oper) : Bool := match o.op with
 | .move _ => true
 | .assign _ => true
 | .pick .. => true
 | .binOp .. => true
 | .unOp .. => true
 | .build .. => true
 | .index .. => true
 | .extract .. => true
 | _ => false
def evDr (P : Program) (F : Callee) (D : Dec) (ops : List Oper) (an : List (List Nat)) : List Oper → Nat → List Done → Nat → AS → (AS → OR) → OR
 | [], _, _, _, s, k => k s
 | o :: l, i, ds, b, s, k =>
  wantK ops s o.guard
   (fun s => cond (lightB o) (evOp P F D o s.ev [] 0 fun v _ => cond ((refsA v).all (hasN · (refsOf s o))) (evDr P F D ops an l (i + 1) ds (b + nObj P D o) (s.put o.dst v) k) none)
    (let n := nObj P D o
    let rf := refsOf s o
    let fp0 := reach s.heap 64 rf []
    let fp := fp0 ++ List.range' b n
    let wr := writes o fp b n
    cond (closB s.heap fp rf && (fp0.all (Nat.blt · b) && ds.all (okDone (an.getD i []) fp wr))) (evOp P F D o s.ev (onlyH fp 0 s.heap) b fun v h =>
     cond (closB h fp (refsA v)) (evDr P F D ops an l (i + 1) (⟨i, fp, wr⟩ :: ds) (b + n) ({ s with heap := mixH wr 0 s.heap h }.put o.dst v) k) none) none))
   (fun s => evDr P F D ops an l (i + 1) ds (b + nObj P D o) (s.put o.dst undV) k)
def maskT (live : List Nat) : Nat → List AV → List AV
 | _, [] => []
 | i, v :: l => cond (hasN i live) v anyV :: maskT live (i + 1) l
def ownS (b : Nat) : SV → SV × List AObj
 | .emp (some e) => (.own b 0, [.arr e.1 e.2.nil 0 false])
 | x => (x, [])
def ownL (b : Nat) : List SV → List SV × List AObj
 | [] => ([], [])
 | x :: l => let (x, o) := ownS b x; let (l, o') := ownL (b + o.length) l; (x :: l, o ++ o')
def ownA (b : Nat) : AV → AV × List AObj
 | .v (.one x) => let (x, o) := ownS b x; (.v (.one x), o)
 | .v (.agg l) => let (l, o) := ownL b l; (.v (.agg l), o)
 | x => (x, [])
def ownTs (b : Nat) : List AV → List AV × List AObj
 | [] => ([], [])
 | x :: l => let (x, o) := ownA b x; let (l, o') := ownTs (b + o.length) l; (x :: l, o ++ o')
def ownH (b : Nat) : List AObj → List AObj × List AObj
 | [] => ([], [])
 | .cells c :: l => let (c, o) := ownL b c; let (l, o') := ownH (b + o.length) l; (.cells c :: l, o ++ o')
 | x :: l => let (l, o) := ownH b l; (x :: l, o)
def ver0S (h : List AObj) : SV → SV
 | .own j v => (match h[j]? with
  | some (.arr _ _ ver _) => cond (Nat.beq v ver) (.own j 0) .any
  | _ => .any)
 | .op .. => .any
 | x => x
def ver0A (h : List AObj) : AV → AV
 | .v (.one x) => .v (.one (ver0S h x))
 | .v (.agg l) => .v (.agg (l.map (ver0S h)))
 | .tup l => anyV
def ver0O (h : List AObj) : AObj → AObj
 | .cells l => .cells (l.map (ver0S h))
 | .arr e d _ z => .arr e d 0 z
 | .dead => .dead
def sameL : List Nat → List Nat → Bool
 | [], [] => true
 | a :: l, b :: m => Nat.beq a b && sameL l m
 | _, _ => false
def gc (m : Nat) (s : AS) : AS :=
 let js := reach s.heap 64 (((List.range m).flatMap fun j => refsO s.heap[j]?) ++ s.tmps.flatMap refsA) (List.range m)
 cond (okJs js s.heap.length && sameL (js.take m) (List.range m)) ⟨s.tmps.map (renA js), selH js s.heap⟩ s
def ownAll (s : AS) : AS :=
 let (t, o) := ownTs s.heap.length s.tmps
 let (h, o') := ownH (s.heap.length + o.length) s.heap
 ⟨t, h ++ (o ++ o')⟩
def ver0 (s : AS) : AS := ⟨s.tmps.map (ver0A s.heap), s.heap.map (ver0O s.heap)⟩
def atHead (m : Nat) (live : Option (List Nat)) (s : AS) : AS :=
 match live with
 | some live => ver0 (gc m (ownAll (gc m { s with tmps := maskT live 0 s.tmps })))
 | none => s
def sealH : Nat → Nat → List AObj → (List AObj → OR) → OR
 | 0, _, h, k => k h
 | n + 1, j, h, k => (match h[j]? with
  | some (.cells c) => sealL h c fun c h => sealH n (j + 1) (h.set j (.cells c)) k
  | _ => sealH n (j + 1) h k)
inductive Ex | normal | exit (id : Nat) | ret
abbrev Kont := Ex → AS → OR
def evL (body : AS → Kont → OR) (nm : AS → AS) : Nat → AS → Kont → OR
 | 0, _, _ => none
 | n + 1, s, k => body s fun e s => match e with
  | .normal => evL body nm n (nm s) k
  | e => k e s
structure Env where
 P : Program
 F : Callee
 D : Dec
 n : Nat
 m : Nat
 live : Nat → Option (List Nat)
def thenK (E : Env) (evb : AS → Kont → OR) (k : Kont) : Kont := fun e s => match e with
 | .normal => evb s k
 | e => k e s
def blockK (id : Nat) (k : Kont) : Kont := fun e s => match e with
 | .exit i => cond (Nat.beq i id) (k .normal s) (k (.exit i) s)
 | e => k e s
def AS.know (s : AS) (c : Operand) (b : Bool) : AS :=
 match c with
 | .tmp t => s.put (some t) (boolV b)
 | _ => s
def drawC (E : Env) (ops : List Oper) (s : AS) (k : Kont) : OR :=
 cond (drawB ops (ancL ops []) ops 0) (evDr E.P E.F E.D ops (ancL ops []) ops 0 [] s.heap.length (grow (room E.P E.D ops) s) fun s => k .normal s) none
noncomputable def evC (E : Env) : Nat → Code → AS → Kont → OR
 | _, .skip, s, k => k .normal s
 | _, .region id ops draw, s, k => cond draw
    (match E.live (1000000 + id) with
     | some _ => sealH s.heap.length 0 s.heap fun h => drawC E ops.toList ⟨s.tmps, h⟩ k
     | none => drawC E ops.toList s k)
    (evOps E.P E.F E.D ops.toList ops.toList s.heap.length (grow (room E.P E.D ops.toList) s) fun s => k .normal s)
 | i, .seq a b, s, k => evC E i a s (thenK E (evC E i b) k)
 | i, .cond c a b, s, k => (match s.ev c with
  | .v (.one (.bool t)) => cond t (evC E i a (s.know c true) k) (evC E i b (s.know c false) k)
  | _ => none)
 | _, .block id b, s, k => evC E id b s (blockK id k)
 | i, .loop b, s, k => evL (evC E i b) (atHead E.m (E.live i)) E.n (atHead E.m (E.live i) s) k
 | _, .exit id, s, k => k (.exit id) s
 | _, .ret, s, k => k .ret s
 | _, _, _, _ => none
def finK (P : Program) (own : Bool) (fn : Func) (m : Nat) : Kont := fun e s => match e with
 | .normal => finish P own fn m s
 | .ret => finish P own fn m s
 | .exit _ => none
structure Say where
 D : Dec
 live : FuncId → Nat → Option (List Nat)
 prim : FuncId → Option (List V1 → OR)
noncomputable def evF (P : Program) (S : Say) : Nat → Callee
 | 0, _, _, _ => none
 | n + 1, f, args, h => match S.prim f with
  | some g => (match h with | [] => g args | _ => none)
  | none => (match P.funcs[f]? with
   | some fn => (match fn.body with
    | some c => evC ⟨P, evF P S n, S.D, n, h.length, S.live f⟩ 0 c ⟨args.map .v ++ List.replicate (fn.ntmps - args.length) anyV, h⟩ (finK P (S.D.own f) fn h.length)
    | none => none)
   | none => none)
end Go.Ab
namespace Go.Ab
open Go Go.Dk
def All2 {α β : Type} (R : α → β → Prop) (l : List α) (m : List β) : Prop := l.length = m.length ∧ ∀ (i : Nat) a b, l[i]? = some a → m[i]? = some b → R a b
section
variable {α β γ : Type} {R S : α → β → Prop}
theorem All2.nil : All2 R [] [] := ⟨rfl, fun i a b h => by simp at h⟩
theorem All2.cons {a : α} {b : β} {l : List α} {m : List β} (h : R a b) (k : All2 R l m) : All2 R (a :: l) (b :: m) := by
 refine ⟨by simp [k.1], fun i x y hx hy => ?_⟩
 cases i with
 | zero => simp at hx hy; subst hx hy; exact h
 | succ i => simp at hx hy; exact k.2 i x y hx hy
theorem All2.cons_inv {a : α} {l : List α} {m : List β} (h : All2 R (a :: l) m) : ∃ b m', m = b :: m' ∧ R a b ∧ All2 R l m' := by
 cases m with
 | nil => simp [All2] at h
 | cons b m => exact ⟨b, m, rfl, h.2 0 a b rfl rfl, by simpa using h.1, fun i x y hx hy => h.2 (i + 1) x y (by simpa using hx) (by simpa using hy)⟩
theorem All2.nil_inv {m : List β} (h : All2 R [] m) : m = [] := by cases m with | nil => rfl | cons b m => simp [All2] at h
theorem All2.mono {l : List α} {m : List β} (h : All2 R l m) (hm : ∀ a b, a ∈ l → R a b → S a b) : All2 S l m :=
 ⟨h.1, fun i a b ha hb => hm a b (List.mem_of_getElem? ha) (h.2 i a b ha hb)⟩
theorem All2.get {l : List α} {m : List β} (h : All2 R l m) {i : Nat} {a : α} (ha : l[i]? = some a) : ∃ b, m[i]? = some b ∧ R a b := by
 have hi : i < l.length := by
  rcases Nat.lt_or_ge i l.length with h' | h'
  ·exact h'
  ·rw [List.getElem?_eq_none h'] at ha; cases ha
 have hb : m[i]? = some (m[i]'(by rw [← h.1]; exact hi)) := List.getElem?_eq_getElem _
 exact ⟨_, hb, h.2 i a _ ha hb⟩
theorem All2.get' {l : List α} {m : List β} (h : All2 R l m) {i : Nat} {b : β} (hb : m[i]? = some b) : ∃ a, l[i]? = some a ∧ R a b := by
 have hi : i < m.length := by
  rcases Nat.lt_or_ge i m.length with h' | h'
  ·exact h'
  ·rw [List.getElem?_eq_none h'] at hb; cases hb
 have ha : l[i]? = some (l[i]'(by rw [h.1]; exact hi)) := List.getElem?_eq_getElem _
 exact ⟨_, ha, h.2 i _ b ha hb⟩
theorem All2.set {l : List α} {m : List β} (h : All2 R l m) (i : Nat) {a : α} {b : β} (hab : R a b) : All2 R (l.set i a) (m.set i b) := by
 refine ⟨by simp [h.1], fun j x y hx hy => ?_⟩
 by_cases hij : i = j
 ·subst hij
  rw [List.getElem?_set_self'] at hx hy
  cases hl : l[i]? with
  | none => simp [hl] at hx
  | some x' =>
   obtain ⟨y', hy', _⟩ := h.get hl
   simp [hl, hy'] at hx hy
   subst hx hy; exact hab
 ·rw [List.getElem?_set_ne hij] at hx hy
  exact h.2 j x y hx hy
theorem All2.append {l l' : List α} {m m' : List β} (h : All2 R l m) (k : All2 R l' m') : All2 R (l ++ l') (m ++ m') := by
 refine ⟨by simp [h.1, k.1], fun i x y hx hy => ?_⟩
 rcases Nat.lt_or_ge i l.length with hi | hi
 ·rw [List.getElem?_append_left hi] at hx
  rw [List.getElem?_append_left (by rw [← h.1]; exact hi)] at hy
  exact h.2 i x y hx hy
 ·rw [List.getElem?_append_right hi] at hx
  rw [List.getElem?_append_right (by rw [← h.1]; exact hi), ← h.1] at hy
  exact k.2 _ x y hx hy
theorem All2.take {l : List α} {m : List β} (h : All2 R l m) (n : Nat) : All2 R (l.take n) (m.take n) := by
 refine ⟨by simp [h.1], fun i x y hx hy => ?_⟩
 rw [List.getElem?_take] at hx hy
 split at hx
 ·rename_i hi; rw [if_pos hi] at hy; exact h.2 i x y hx hy
 ·cases hx
theorem All2.drop {l : List α} {m : List β} (h : All2 R l m) (n : Nat) : All2 R (l.drop n) (m.drop n) := by
 refine ⟨by simp [h.1], fun i x y hx hy => ?_⟩
 rw [List.getElem?_drop] at hx hy
 exact h.2 _ x y hx hy
theorem All2.append_inv {l l' : List α} {m : List β} (h : All2 R (l ++ l') m) : ∃ m1 m2, m = m1 ++ m2 ∧ All2 R l m1 ∧ All2 R l' m2 := by
 refine ⟨m.take l.length, m.drop l.length, (List.take_append_drop _ _).symm, ?_, ?_⟩
 ·have := h.take l.length; simpa using this
 ·have := h.drop l.length; simpa using this
theorem All2.replicate {a : α} {b : β} (h : R a b) (n : Nat) : All2 R (List.replicate n a) (List.replicate n b) := by
 refine ⟨by simp, fun i x y hx hy => ?_⟩
 have h1 := List.mem_of_getElem? hx
 have h2 := List.mem_of_getElem? hy
 rw [(List.mem_replicate.1 h1).2, (List.mem_replicate.1 h2).2]; exact h
end
inductive GO | cells (b : Nat) (T : TypeId) (vs : List Value) | arr (ver : Nat) (v : Value) (sz : Nat) (xs : List Value) | gone | fresh
def CellsAt (w : World) (b off : Nat) (xs : List Value) : Prop := ∀ (i : Nat) x, xs[i]? = some x → w.cell? ⟨b, off + i, none⟩ = some x
def SlI (Z : Zone) (w : World) (l : List Int) (x : Value) : Prop := ∃ a cap, x = .slice a l.length cap ∧ l.length ≤ cap ∧ l.length ≤ maxLen ∧
 (l = [] ∨ ∃ b off, a = some ⟨b, off, none⟩ ∧ Z b ∧ CellsAt w b off (l.map (.int .i64 ·)))
def ElemsR (Z : Zone) (w : World) : SD → List Value → Prop
 | .ts l, xs => ∃ hs : List HT, hs.map HT.er = l ∧ xs = flatT hs ∧ ∀ h ∈ hs, Rd Z w h
 | .is l, xs => xs = l.map (.int .i64 ·)
 | .iss l, xs => All2 (SlI Z w) l xs
 | .ss l, xs => xs = l.map .string
 | .bs l, xs => xs = l.map fun c => .int .u8 (c.toNat : Int)
def SlR (Z : Zone) (w : World) (d : SD) (x : Value) : Prop := ∃ a cap xs, x = .slice a d.len cap ∧ d.len ≤ cap ∧ d.len ≤ maxLen ∧ ElemsR Z w d xs ∧
 (xs = [] ∨ ∃ b off, a = some ⟨b, off, none⟩ ∧ Z b ∧ CellsAt w b off xs)
def CellsR (Z : Zone) (w : World) : SE → List Value → Prop
 | .t x, cs => ∃ h : HT, h.er = x ∧ Rd Z w h ∧ cs = [.int .i64 h.k, .int .i64 h.n, h.sl]
 | .i n, cs => cs = [.int .i64 n]
 | .ii l, cs => ∃ x, cs = [x] ∧ SlI Z w l x
 | .s x, cs => cs = [.string x]
 | .b c, cs => cs = [.int .u8 (c.toNat : Int)]
def EpR (Z : Zone) (w : World) (e : SE) (o : Nat) (x : Value) : Prop := ∃ b off cs, x = .pointer (some ⟨b, off + o, none⟩) ∧ Z b ∧ CellsAt w b off cs ∧ CellsR Z w e cs
def pv (b o : Nat) : Value := .pointer (some ⟨b, o, none⟩)
def RS (G : List GO) (Z : Zone) (w : World) : SV → Value → Prop
 | .int k n, x => x = .int k n
 | .bool b, x => x = .bool b
 | .str s, x => x = .string s
 | .emp _, x => ∃ a, x = .slice a 0 0
 | .fr d, x => SlR Z w d x
 | .own j v, x => G[j]? = some .gone ∨ ∃ ver val sz xs, G[j]? = some (.arr ver val sz xs) ∧ v ≤ ver ∧ (v = ver → x = val)
 | .ptr j o, x => G[j]? = some .gone ∨ ∃ b T vs, G[j]? = some (.cells b T vs) ∧ x = pv b o
 | .ep e o, x => EpR Z w e o x
 | .op j v i o, x => G[j]? = some .gone ∨ ∃ ver val sz xs, G[j]? = some (.arr ver val sz xs) ∧ v ≤ ver ∧ (v = ver → ∃ b off n c, val = .slice (some ⟨b, off, none⟩) n c ∧ i < n ∧ x = pv b (off + i * sz + o))
 | .fn f l, x => ∃ bs : List Nat, x = .func (.func f) #[] (bs.map fun b => pv b 0).toArray ∧ All2 (fun j b => G[j]? = some .gone ∨ ∃ T vs, G[j]? = some (.cells b T vs)) l bs
 | .nilp, x => x = .pointer none
 | .any, _ => True
def OneR (G : List GO) (Z : Zone) (w : World) (v : SV) (x : Value) : Prop := RS G Z w v x ∧ oneB x = true
def RV1 (G : List GO) (Z : Zone) (w : World) : V1 → Value → Prop
 | .one s, x => RS G Z w s x ∧ (s ≠ .any → oneB x = true)
 | .agg l, x => ∃ xs : List Value, x = .agg xs.toArray ∧ All2 (OneR G Z w) l xs
def RV (G : List GO) (Z : Zone) (w : World) : AV → Value → Prop
 | .v v, x => RV1 G Z w v x
 | .tup l, x => ∃ xs : List Value, x = .tuple xs.toArray ∧ All2 (RV1 G Z w) l xs
def rowZ (e sz : Nat) (v : Value) (n : Nat) (xs : List Value) : Res :=
 match v with
 | .slice a _ 0 => ⟨fun _ => False, fun _ => n = 0 ∧ xs = [] ∧ v = .slice a 0 0⟩
 | v => rowR e sz v n xs
theorem rowZ_local (e sz : Nat) (v : Value) (n : Nat) (xs : List Value) : (rowZ e sz v n xs).Local := by
 unfold rowZ
 split
 ·exact fun _ _ _ h => h
 ·exact rowR_local _ _ _ _ _
def resO : AObj → GO → List Res
 | .cells _, .cells b T vs => [blk b vs T]
 | .arr e d _ false, .arr _ v sz xs => [rowZ e sz v d.len xs]
 | _, _ => []
def RO (G : List GO) (Z : Zone) (w : World) : AObj → GO → Prop
 | .cells l, .cells b T vs => All2 (OneR G Z w) l vs
 | .arr e d ver fz, .arr ver' v sz xs => ver = ver' ∧ sz = d.kind.size ∧ cond fz (SlR Z w d v) (ElemsR Z w d xs ∧ ∃ a c, v = .slice a d.len c)
 | .dead, .gone => True
 | .dead, .fresh => True
 | _, _ => False
def resL : List AObj → List GO → List Res
 | o :: h, g :: G => resO o g ++ resL h G
 | _, _ => []
def relF (s : AS) (G : List GO) (tv : List Value) : Fact := fun Z w => All2 (RV G Z w) s.tmps tv ∧ All2 (RO G Z w) s.heap G
structure InvG (w0 : World) (M Z0 : Zone) (b : Nat) (G : List GO) (s : AS) (tv : List Value) (w : World) : Prop where
 st : St w0 M Z0 (resL s.heap G) (relF s G tv) w
 fresh : ∀ j, b ≤ j → j < G.length → G[j]? = some .fresh
 mz : MZ M Z0 w0
section
variable {Z Z' : Zone} {w w' : World}
abbrev Keeps (Z Z' : Zone) (w w' : World) : Prop := ∀ b, Z b → b < w.heap.size → Z' b ∧ w'.heap[b]? = w.heap[b]?
theorem CellsAt.lt {b off : Nat} {xs : List Value} (h : CellsAt w b off xs) (hne : xs ≠ []) : b < w.heap.size := by
 cases xs with
 | nil => exact absurd rfl hne
 | cons x xs => exact cell_lt (h 0 x rfl)
theorem CellsAt.keep {b off : Nat} {xs : List Value} (h : CellsAt w b off xs) (hk : w'.heap[b]? = w.heap[b]?) : CellsAt w' b off xs :=
 fun i x hx => (cell_keep hk).trans (h i x hx)
theorem SlI.stable (hz : Keeps Z Z' w w') {l : List Int} {x : Value} (h : SlI Z w l x) : SlI Z' w' l x := by
 obtain ⟨a, cap, hx, h1, h2, h3⟩ := h
 refine ⟨a, cap, hx, h1, h2, ?_⟩
 rcases h3 with h3 | ⟨b, off, ha, hb, hc⟩
 ·exact .inl h3
 ·by_cases hl : l = []
  ·exact .inl hl
  ·have hlt := hc.lt (by simpa using hl)
   exact .inr ⟨b, off, ha, (hz b hb hlt).1, hc.keep (hz b hb hlt).2⟩
theorem ElemsR.stable (hz : Keeps Z Z' w w') {d : SD} {xs : List Value} (h : ElemsR Z w d xs) : ElemsR Z' w' d xs := by
 cases d with
 | ts l => obtain ⟨hs, h1, h2, h3⟩ := h; exact ⟨hs, h1, h2, fun t ht => Rd.stable Z Z' w w' hz t (h3 t ht)⟩
 | is l => exact h
 | iss l => exact All2.mono h (fun _ _ _ hh => hh.stable hz)
 | ss l => exact h
 | bs l => exact h
theorem SlR.stable (hz : Keeps Z Z' w w') {d : SD} {x : Value} (h : SlR Z w d x) : SlR Z' w' d x := by
 obtain ⟨a, cap, xs, hx, h1, h2, h3, h4⟩ := h
 refine ⟨a, cap, xs, hx, h1, h2, h3.stable hz, ?_⟩
 rcases h4 with h4 | ⟨b, off, ha, hb, hc⟩
 ·exact .inl h4
 ·by_cases hl : xs = []
  ·exact .inl hl
  ·have hlt := hc.lt hl
   exact .inr ⟨b, off, ha, (hz b hb hlt).1, hc.keep (hz b hb hlt).2⟩
theorem CellsR.stable (hz : Keeps Z Z' w w') {e : SE} {cs : List Value} (h : CellsR Z w e cs) : CellsR Z' w' e cs := by
 cases e with
 | t x => obtain ⟨t, h1, h2, h3⟩ := h; exact ⟨t, h1, Rd.stable Z Z' w w' hz t h2, h3⟩
 | i n => exact h
 | ii l => obtain ⟨x, h1, h2⟩ := h; exact ⟨x, h1, h2.stable hz⟩
 | s x => exact h
 | b c => exact h
theorem CellsR.ne {e : SE} {cs : List Value} (h : CellsR Z w e cs) : cs ≠ [] := by
 cases e with
 | t x => obtain ⟨t, h1, h2, h3⟩ := h; simp [h3]
 | i n => simp only [CellsR] at h; simp [h]
 | ii l => obtain ⟨x, h1, h2⟩ := h; simp [h1]
 | s x => simp only [CellsR] at h; simp [h]
 | b c => simp only [CellsR] at h; simp [h]
theorem EpR.stable (hz : Keeps Z Z' w w') {e : SE} {o : Nat} {x : Value} (h : EpR Z w e o x) : EpR Z' w' e o x := by
 obtain ⟨b, off, cs, hx, hb, hc, hr⟩ := h
 have hlt := hc.lt hr.ne
 exact ⟨b, off, cs, hx, (hz b hb hlt).1, hc.keep (hz b hb hlt).2, hr.stable hz⟩
theorem RS.stable {G : List GO} (hz : Keeps Z Z' w w') {s : SV} {x : Value} (h : RS G Z w s x) : RS G Z' w' s x := by
 cases s with
 | fr d => exact SlR.stable hz h
 | ep e o => exact EpR.stable hz h
 | _ => exact h
theorem RV1.stable {G : List GO} (hz : Keeps Z Z' w w') {v : V1} {x : Value} (h : RV1 G Z w v x) : RV1 G Z' w' v x := by
 cases v with
 | one s => exact ⟨h.1.stable hz, h.2⟩
 | agg l => obtain ⟨xs, hx, hh⟩ := h; exact ⟨xs, hx, hh.mono fun _ _ _ k => ⟨k.1.stable hz, k.2⟩⟩
theorem RV.stable {G : List GO} (hz : Keeps Z Z' w w') {v : AV} {x : Value} (h : RV G Z w v x) : RV G Z' w' v x := by
 cases v with
 | v v => exact RV1.stable hz h
 | tup l => obtain ⟨xs, hx, hh⟩ := h; exact ⟨xs, hx, hh.mono fun _ _ _ k => k.stable hz⟩
theorem RO.stable {G : List GO} (hz : Keeps Z Z' w w') {o : AObj} {g : GO} (h : RO G Z w o g) : RO G Z' w' o g := by
 cases o with
 | cells l => cases g with
  | cells b T vs => exact All2.mono h fun _ _ _ k => ⟨k.1.stable hz, k.2⟩
  | _ => exact h
 | arr e d ver fz => cases g with
  | arr ver' v sz xs =>
   obtain ⟨h1, h2, h3⟩ := h
   refine ⟨h1, h2, ?_⟩
   cases fz with
   | true => exact SlR.stable hz h3
   | false => exact ⟨ElemsR.stable hz h3.1, h3.2⟩
  | _ => exact h
 | dead => cases g <;> exact h
theorem relF_stable (s : AS) (G : List GO) (tv : List Value) : Stable (relF s G tv) := fun Z Z' w w' hz h =>
 ⟨h.1.mono fun _ _ _ k => k.stable hz, h.2.mono fun _ _ _ k => k.stable hz⟩
end
theorem resO_local (o : AObj) (g : GO) : ∀ r ∈ resO o g, r.Local := by
 intro r hr
 unfold resO at hr
 split at hr
 ·rw [List.mem_singleton] at hr; subst hr; exact blk_local _ _ _
 ·rw [List.mem_singleton] at hr; subst hr; exact rowZ_local _ _ _ _ _
 ·cases hr
theorem resO_dead (g : GO) : resO .dead g = [] := by cases g <;> rfl
theorem resL_out : ∀ (h : List AObj) (G : List GO) (j : Nat) {o : AObj} {g : GO}, h[j]? = some o → G[j]? = some g → (resL h G).Perm (resO o g ++ resL (h.set j .dead) (G.set j .gone))
 | [], _, j, o, g, hj, _ => by simp at hj
 | _ :: _, [], j, o, g, _, gj => by simp at gj
 | x :: h, y :: G, 0, o, g, hj, gj => by
  simp only [List.getElem?_cons_zero, Option.some.injEq] at hj gj
  subst hj gj
  simp only [List.set_cons_zero, resL, resO_dead, List.nil_append]
  exact List.Perm.refl _
 | x :: h, y :: G, j + 1, o, g, hj, gj => by
  simp only [List.getElem?_cons_succ] at hj gj
  simp only [List.set_cons_succ, resL]
  have := (resL_out h G j hj gj).append_left (resO x y)
  refine this.trans ?_
  rw [← List.append_assoc, ← List.append_assoc]
  exact List.perm_append_comm.append_right _
theorem resL_in {h : List AObj} {G : List GO} {j : Nat} (o : AObj) (g : GO) (hj : j < h.length) (gj : j < G.length) : (resO o g ++ resL (h.set j .dead) (G.set j .gone)).Perm (resL (h.set j o) (G.set j g)) := by
 have := resL_out (h.set j o) (G.set j g) j (o := o) (g := g) (by simp [hj]) (by simp [gj])
 rw [List.set_set, List.set_set] at this
 exact this.symm
theorem resL_append : ∀ {h h' : List AObj} {G G' : List GO}, h.length = G.length → resL (h ++ h') (G ++ G') = resL h G ++ resL h' G'
 | [], _, [], _, _ => rfl
 | x :: h, h', y :: G, G', hl => by simp only [List.cons_append, resL]; rw [resL_append (by simpa using hl), List.append_assoc]
 | [], _, _ :: _, _, hl => by simp at hl
 | _ :: _, _, [], _, hl => by simp at hl
theorem resL_dead : ∀ (n : Nat) (G : List GO), resL (List.replicate n .dead) G = []
 | 0, _ => rfl
 | n + 1, [] => rfl
 | n + 1, g :: G => by rw [List.replicate_succ, resL, resO_dead, resL_dead n G]; rfl
theorem _root_.Go.Dk.St.sub {w0 w : World} {M Z0 : Zone} {L L' : List Res} {φ : Fact} (h : St w0 M Z0 L φ w) (hs : L'.Sublist L) : St w0 M Z0 L' φ w :=
 ⟨h.ext, fun r hr => h.own r (hs.subset hr), fun r hr => h.loc r (hs.subset hr), fun r hr => h.key r (hs.subset hr), h.dis.sublist hs, h.stab,
  h.stab _ _ w w (fun b hz _ => ⟨⟨hz.1, fun r hr => hz.2 r (hs.subset hr)⟩, rfl⟩) h.per⟩
theorem _root_.Go.Dk.St.weak {w0 w : World} {M Z0 : Zone} {L : List Res} {φ ψ : Fact} (h : St w0 M Z0 L φ w) (hs : Stable ψ) (hp : φ (zone w0 Z0 L) w → ψ (zone w0 Z0 L) w) : St w0 M Z0 L ψ w :=
 ⟨h.ext, h.own, h.loc, h.key, h.dis, hs, hp h.per⟩
def Up (G G' : List GO) : Prop := ∀ (j : Nat),
 (G[j]? = some .gone → G'[j]? = some .gone) ∧
 (∀ b T vs, G[j]? = some (.cells b T vs) → G'[j]? = some .gone ∨ ∃ T' vs', G'[j]? = some (.cells b T' vs')) ∧
 (∀ ver val sz xs, G[j]? = some (.arr ver val sz xs) → G'[j]? = some .gone ∨ ∃ ver' val' xs', G'[j]? = some (.arr ver' val' sz xs') ∧ (ver < ver' ∨ (ver = ver' ∧ val = val')))
theorem Up.refl (G : List GO) : Up G G := fun j => ⟨id, fun b T vs h => .inr ⟨T, vs, h⟩, fun ver val sz xs h => .inr ⟨ver, val, xs, h, .inr ⟨rfl, rfl⟩⟩⟩
theorem Up.trans {G G' G'' : List GO} (h : Up G G') (k : Up G' G'') : Up G G'' := by
 intro j
 refine ⟨fun hh => (k j).1 ((h j).1 hh), fun b T vs hh => ?_, fun ver val sz xs hh => ?_⟩
 ·rcases (h j).2.1 b T vs hh with h1 | ⟨T', vs', h1⟩
  ·exact .inl ((k j).1 h1)
  ·exact (k j).2.1 b T' vs' h1
 ·rcases (h j).2.2 ver val sz xs hh with h1 | ⟨ver', val', xs', h1, h2⟩
  ·exact .inl ((k j).1 h1)
  ·rcases (k j).2.2 ver' val' sz xs' h1 with h3 | ⟨ver'', val'', xs'', h3, h4⟩
   ·exact .inl h3
   ·refine .inr ⟨ver'', val'', xs'', h3, ?_⟩
    rcases h2 with h2 | ⟨rfl, rfl⟩
    ·rcases h4 with h4 | ⟨rfl, rfl⟩
     ·exact .inl (by omega)
     ·exact .inl h2
    ·exact h4
theorem Up.set {G : List GO} {j : Nat} {g : GO} (h : ∀ g0, G[j]? = some g0 → match g0, g with
   | .fresh, _ => True
   | _, .gone => True
   | .cells b _ _, .cells b' _ _ => b = b'
   | .arr ver val sz _, .arr ver' val' sz' _ => sz = sz' ∧ (ver < ver' ∨ (ver = ver' ∧ val = val'))
   | _, _ => False) : Up G (G.set j g) := by
 intro i
 by_cases hij : j = i
 ·subst hij
  cases hg : G[j]? with
  | none => exact ⟨nofun, nofun, nofun⟩
  | some g0 =>
   have hlt : j < G.length := by
    rcases Nat.lt_or_ge j G.length with h' | h'
    ·exact h'
    ·rw [List.getElem?_eq_none h'] at hg; cases hg
   have hs : (G.set j g)[j]? = some g := by simp [hlt]
   have hh := h g0 hg
   refine ⟨fun e => ?_, fun b T vs e => ?_, fun ver val sz xs e => ?_⟩
   ·obtain rfl := Option.some.inj e; rw [hs]; cases g <;> first | rfl | exact hh.elim
   ·obtain rfl := Option.some.inj e; rw [hs]
    cases g with
    | gone => exact .inl rfl
    | cells b' T' vs' => have hh : b = b' := hh; subst hh; exact .inr ⟨T', vs', rfl⟩
    | _ => exact hh.elim
   ·obtain rfl := Option.some.inj e; rw [hs]
    cases g with
    | gone => exact .inl rfl
    | arr ver' val' sz' xs' => obtain ⟨rfl, hh⟩ := hh; exact .inr ⟨ver', val', xs', rfl, hh⟩
    | _ => exact hh.elim
 ·rw [List.getElem?_set_ne hij]
  exact ⟨id, fun b T vs h => .inr ⟨T, vs, h⟩, fun ver val sz xs h => .inr ⟨ver, val, xs, h, .inr ⟨rfl, rfl⟩⟩⟩
theorem Up.append (G N : List GO) : Up G (G ++ N) := by
 intro j
 have : ∀ g, G[j]? = some g → (G ++ N)[j]? = some g := fun g h => by
  rcases Nat.lt_or_ge j G.length with h' | h'
  ·rw [List.getElem?_append_left h']; exact h
  ·rw [List.getElem?_eq_none h'] at h; cases h
 exact ⟨fun h => this _ h, fun b T vs h => .inr ⟨T, vs, this _ h⟩, fun ver val sz xs h => .inr ⟨ver, val, xs, this _ h, .inr ⟨rfl, rfl⟩⟩⟩
section
variable {G G' : List GO} {Z : Zone} {w : World}
theorem RS.up (h : Up G G') {s : SV} {x : Value} (k : RS G Z w s x) : RS G' Z w s x := by
 cases s with
 | own j v =>
  rcases k with k | ⟨ver, val, sz, xs, hg, hv, he⟩
  ·exact .inl ((h j).1 k)
  ·rcases (h j).2.2 _ _ _ _ hg with h1 | ⟨ver', val', xs', h1, h2⟩
   ·exact .inl h1
   ·refine .inr ⟨ver', val', sz, xs', h1, ?_⟩
    rcases h2 with h2 | ⟨rfl, rfl⟩
    ·exact ⟨by omega, fun e => by omega⟩
    ·exact ⟨hv, he⟩
 | ptr j o =>
  rcases k with k | ⟨b, T, vs, hg, he⟩
  ·exact .inl ((h j).1 k)
  ·rcases (h j).2.1 _ _ _ hg with h1 | ⟨T', vs', h1⟩
   ·exact .inl h1
   ·exact .inr ⟨b, T', vs', h1, he⟩
 | op j v i o =>
  rcases k with k | ⟨ver, val, sz, xs, hg, hv, he⟩
  ·exact .inl ((h j).1 k)
  ·rcases (h j).2.2 _ _ _ _ hg with h1 | ⟨ver', val', xs', h1, h2⟩
   ·exact .inl h1
   ·refine .inr ⟨ver', val', sz, xs', h1, ?_⟩
    rcases h2 with h2 | ⟨rfl, rfl⟩
    ·exact ⟨by omega, fun e => by omega⟩
    ·exact ⟨hv, he⟩
 | fn f l =>
  obtain ⟨bs, hx, hh⟩ := k
  refine ⟨bs, hx, hh.mono fun j b _ hjb => ?_⟩
  rcases hjb with h1 | ⟨T, vs, h1⟩
  ·exact .inl ((h j).1 h1)
  ·rcases (h j).2.1 _ _ _ h1 with h2 | ⟨T', vs', h2⟩
   ·exact .inl h2
   ·exact .inr ⟨T', vs', h2⟩
 | _ => exact k
theorem RV1.up (h : Up G G') {s : V1} {x : Value} (k : RV1 G Z w s x) : RV1 G' Z w s x := by
 cases s with
 | one s => exact ⟨k.1.up h, k.2⟩
 | agg l => obtain ⟨xs, hx, hh⟩ := k; exact ⟨xs, hx, hh.mono fun _ _ _ k => ⟨k.1.up h, k.2⟩⟩
theorem RV.up (h : Up G G') {s : AV} {x : Value} (k : RV G Z w s x) : RV G' Z w s x := by
 cases s with
 | v s => exact RV1.up h k
 | tup l => obtain ⟨xs, hx, hh⟩ := k; exact ⟨xs, hx, hh.mono fun _ _ _ k => k.up h⟩
theorem RO.up (h : Up G G') {o : AObj} {g : GO} (k : RO G Z w o g) : RO G' Z w o g := by
 cases o with
 | cells l => cases g with
  | cells b T vs => exact All2.mono k fun _ _ _ k => ⟨k.1.up h, k.2⟩
  | _ => exact k
 | arr e d ver fz => cases g <;> exact k
 | dead => cases g <;> exact k
end
end Go.Ab
end
section
namespace Go.Ab
open Go Go.Dk
theorem cond_some {b : Bool} {x y : OR} {r} (h : cond b x y = some r) : (b = true ∧ x = some r) ∨ (b = false ∧ y = some r) := by cases b <;> simp_all
theorem cond_left {b : Bool} {x : OR} {r} (h : cond b x none = some r) : b = true ∧ x = some r := by cases b <;> simp_all
theorem cond_right {b : Bool} {x : OR} {r} (h : cond b none x = some r) : b = false ∧ x = some r := by cases b <;> simp_all
theorem bind_some {α : Type} {o : Option α} {k : α → OR} {r} (h : o.bind k = some r) : ∃ a, o = some a ∧ k a = some r := by cases o <;> simp_all
theorem ikEq_eq {a b : IntKind} (h : ikEq a b = true) : a = b := by simpa [ikEq] using h
section
variable {P : Program} {G : List GO} {Z : Zone} {w : World}
theorem int_inv {k : IntKind} {n : Int} {x : Value} (h : RV G Z w (.v (.one (.int k n))) x) : x = .int k n := h.1
theorem bool_inv {b : Bool} {x : Value} (h : RV G Z w (.v (.one (.bool b))) x) : x = .bool b := h.1
theorem str_inv {b : ByteArray} {x : Value} (h : RV G Z w (.v (.one (.str b))) x) : x = .string b := h.1
theorem OneR.rv {v : SV} {x : Value} (h : OneR G Z w v x) : RV G Z w (.v (.one v)) x := ⟨h.1, fun _ => h.2⟩
theorem svOf_rel (k : Option (TypeId × SK)) (v : Value) : RS G Z w (svOf k v) v := by
 unfold svOf
 split <;> first | rfl | trivial | exact ⟨none, rfl⟩
theorem svOf_cells (k : Option (TypeId × SK)) (v : Value) : svOf k v ≠ .any → oneB v = true := by
 unfold svOf
 split <;> intro h <;> first | rfl | exact absurd rfl h
theorem svsOf_rel : ∀ (ks : List (Option (TypeId × SK))) (vs : List Value), (∀ v ∈ vs, oneB v = true) → All2 (OneR G Z w) (svsOf ks vs) vs
 | _, [], _ => by cases ‹List (Option (TypeId × SK))› <;> exact All2.nil
 | [], v :: vs, h => All2.cons ⟨svOf_rel _ _, h v (by simp)⟩ (svsOf_rel [] vs fun u hu => h u (by simp [hu]))
 | k :: ks, v :: vs, h => All2.cons ⟨svOf_rel _ _, h v (by simp)⟩ (svsOf_rel ks vs fun u hu => h u (by simp [hu]))
theorem any_rel (x : Value) : RV G Z w anyV x := ⟨trivial, fun h => absurd rfl h⟩
theorem ofValue_rel (v : Value) : RV G Z w (AV.ofValue v) v := by
 unfold AV.ofValue
 split
 ·rename_i cs
  cases hc : cs.toList.all oneB with
  | true => exact ⟨cs.toList, by simp, svsOf_rel _ _ (fun v hv => List.all_eq_true.1 hc v hv)⟩
  | false => exact any_rel _
 ·exact any_rel _
 ·exact ⟨svOf_rel _ _, svOf_cells _ _⟩
theorem retype_go_rel : ∀ (ks : List (Option (TypeId × SK))) (l : List SV) (xs : List Value), All2 (OneR G Z w) l xs → All2 (OneR G Z w) (retype.go ks l) xs
 | [], l, xs, h => by unfold retype.go; exact h
 | k :: ks, [], xs, h => by unfold retype.go; exact h
 | k :: ks, x :: l, xs, h => by
  obtain ⟨y, ys, rfl, h1, h2⟩ := h.cons_inv
  have ih := retype_go_rel ks l ys h2
  cases x with
  | emp e => cases e with
   | none => exact All2.cons h1 ih
   | some e => exact All2.cons h1 ih
  | _ => exact All2.cons h1 ih
theorem retype_rel (t : TypeId) {v : AV} {x : Value} (h : RV G Z w v x) : RV G Z w (retype P t v) x := by
 unfold retype
 split
 ·exact ⟨h.1, fun _ => h.2 nofun⟩
 ·obtain ⟨xs, hx, hh⟩ := h
  exact ⟨xs, hx, retype_go_rel _ _ _ hh⟩
 ·exact h
variable {ρ : Operand → Value} {x y : Operand} {d : Option Tmp} {ty t t' : TypeId} {pos : String} {aft : Array Edge} {gd : Option (Nat × Bool)} {vx vy : AV} {r : List V1 × List AObj}
theorem int_one (k : IntKind) (n : Int) : OneR G Z w (.int k n) (.int k n) := ⟨rfl, rfl⟩
theorem bool_one (b : Bool) : OneR G Z w (.bool b) (.bool b) := ⟨rfl, rfl⟩
theorem str_one (b : ByteArray) : OneR G Z w (.str b) (.string b) := ⟨rfl, rfl⟩
theorem evInt_sound {op : BinOp} {ka : IntKind} {a b : Int} {k : SV → OR} (hx : ρ x = .int ka a) (hy : ρ y = .int ka b) (h : evInt op ka a b k = some r) :
   ∃ v X, k v = some r ∧ (execOp ρ ⟨d, .binOp op t x y t', ty, pos, aft, gd⟩).run P w = .ok (.value X) w ∧ OneR G Z w v X := by
 cases op <;> simp only [evInt] at h
 case add => exact ⟨_, _, h, by simp [go_sem, execOp, hx, hy, eqGuard, binOp, Op.intArith], int_one _ _⟩
 case sub => exact ⟨_, _, h, by simp [go_sem, execOp, hx, hy, eqGuard, binOp, Op.intArith], int_one _ _⟩
 case mul => exact ⟨_, _, h, by simp [go_sem, execOp, hx, hy, eqGuard, binOp, Op.intArith], int_one _ _⟩
 case quo =>
  obtain ⟨hb, h⟩ := cond_right h
  have hb : b ≠ 0 := by simpa using hb
  exact ⟨_, _, h, by simp [go_sem, execOp, hx, hy, eqGuard, binOp, Op.intDiv, hb], int_one _ _⟩
 case rem =>
  obtain ⟨hb, h⟩ := cond_right h
  have hb : b ≠ 0 := by simpa using hb
  exact ⟨_, _, h, by simp [go_sem, execOp, hx, hy, eqGuard, binOp, Op.intDiv, hb], int_one _ _⟩
 case xor => exact ⟨_, _, h, by simp [go_sem, execOp, hx, hy, eqGuard, binOp, Op.intBits], int_one _ _⟩
 case eql => exact ⟨_, _, h, by simp [go_sem, execOp, hx, hy, eqGuard, binOp, Op.intCmp]; rfl, bool_one _⟩
 case neq => exact ⟨_, _, h, by simp [go_sem, execOp, hx, hy, eqGuard, binOp, Op.intCmp]; rfl, bool_one _⟩
 case lss => exact ⟨_, _, h, by simp [go_sem, execOp, hx, hy, eqGuard, binOp, Op.intCmp], bool_one _⟩
 case leq => exact ⟨_, _, h, by simp [go_sem, execOp, hx, hy, eqGuard, binOp, Op.intCmp], bool_one _⟩
 case gtr => exact ⟨_, _, h, by simp [go_sem, execOp, hx, hy, eqGuard, binOp, Op.intCmp], bool_one _⟩
 case geq => exact ⟨_, _, h, by simp [go_sem, execOp, hx, hy, eqGuard, binOp, Op.intCmp], bool_one _⟩
 all_goals cases h
theorem evStr_sound {op : BinOp} {a b : ByteArray} {k : SV → OR} (hx : ρ x = .string a) (hy : ρ y = .string b) (h : evStr op a b k = some r) :
   ∃ v X, k v = some r ∧ (execOp ρ ⟨d, .binOp op t x y t', ty, pos, aft, gd⟩).run P w = .ok (.value X) w ∧ OneR G Z w v X := by
 cases op <;> simp only [evStr] at h
 case add =>
  obtain ⟨hb, h⟩ := cond_left h
  exact ⟨_, _, h, (Y_sadd (S := fun _ => True) hx hy (by simpa using hb)).out w trivial, str_one _⟩
 case eql => exact ⟨_, _, h, (Y_seql (S := fun _ => True) hx hy).out w trivial, bool_one _⟩
 case neq => exact ⟨_, _, h, (Y_sneq (S := fun _ => True) hx hy).out w trivial, bool_one _⟩
 case gtr => exact ⟨_, _, h, by simp [go_sem, execOp, hx, hy, eqGuard, binOp, Op.stringOp], bool_one _⟩
 all_goals cases h
theorem evBin_sound {op : BinOp} {k : SV → OR} (hx : RV G Z w vx (ρ x)) (hy : RV G Z w vy (ρ y)) (h : evBin P op t vx vy k = some r) :
   ∃ v X, k v = some r ∧ (execOp ρ ⟨d, .binOp op t x y t', ty, pos, aft, gd⟩).run P w = .ok (.value X) w ∧ OneR G Z w v X := by
 unfold evBin at h
 split at h
 ·obtain ⟨hk, h'⟩ := cond_left h
  obtain rfl := ikEq_eq hk
  exact evInt_sound (int_inv hx) (int_inv hy) h'
 ·exact evStr_sound (str_inv hx) (str_inv hy) h
 ·split at h
  ·rename_i hb
   split at h
   ·exact ⟨_, _, h, (Y_beql (S := fun _ => True) (bool_inv hx) (bool_inv hy) hb).out w trivial, bool_one _⟩
   ·exact ⟨_, _, h, (Y_bneq (S := fun _ => True) (bool_inv hx) (bool_inv hy) hb).out w trivial, bool_one _⟩
   ·cases h
  ·cases h
 ·cases h
theorem evUn_sound {op : UnOp} {k : SV → OR} (hx : RV G Z w vx (ρ x)) (h : evUn op vx k = some r) :
   ∃ v X, k v = some r ∧ (execOp ρ ⟨d, .unOp op t x, ty, pos, aft, gd⟩).run P w = .ok (.value X) w ∧ OneR G Z w v X := by
 unfold evUn at h
 split at h
 ·exact ⟨_, _, h, by simp [go_sem, execOp, (bool_inv hx), Op.unary], bool_one _⟩
 ·exact ⟨_, _, h, by simp [go_sem, execOp, (int_inv hx), Op.unary, Op.intArith], int_one _ _⟩
 ·cases h
theorem optInt_some {v : AV} {X : Value} {k : Int → OR} (h : optInt v k = some r) (hx : RV G Z w v X) : ∃ n, X = .int .i64 n ∧ k n = some r := by
 unfold optInt at h
 split at h
 ·exact ⟨_, (int_inv hx), h⟩
 ·cases h
theorem SlR.val {D : SD} {X : Value} (h : SlR Z w D X) : ∃ a c, X = .slice a D.len c := by obtain ⟨a, c, _, hx, _⟩ := h; exact ⟨a, c, hx⟩
theorem SK.size_pos (k : SK) : 0 < k.size := by cases k <;> decide
theorem kindE_out {e : TypeId} {k : SK} (h : kindE P e = some k) : kind0 P e = some k ∧ ∃ i z, P.info? e = some i ∧ i.zero = some z ∧ i.size = k.size ∧ z.cells.size = k.size ∧ i.bytes ≤ 64 := by
 unfold kindE at h
 cases h0 : kind0 P e with
 | none => simp [h0] at h
 | some k' =>
  simp only [h0, Option.bind_some] at h
  cases hs : sizeOk P e k' with
  | false => simp [hs] at h
  | true =>
   simp only [hs, cond_true, Option.some.injEq] at h
   subst h
   refine ⟨rfl, ?_⟩
   unfold sizeOk at hs
   split at hs
   ·rename_i i hi
    split at hs
    ·rename_i z hz
     simp only [Bool.and_eq_true, Nat.beq_eq, Nat.ble_eq] at hs
     exact ⟨i, z, hi, hz, hs.1, hs.2.1, hs.2.2⟩
    ·cases hs
   ·cases hs
theorem kindS_out {t : TypeId} {e : TypeId × SK} (h : kindS P t = some e) : P.underlying t = some (.slice e.1) ∧ kindE P e.1 = some e.2 := by
 unfold kindS at h
 split at h
 ·rename_i e' hu
  cases hk : kindE P e' with
  | none => simp [hk] at h
  | some k => simp only [hk, Option.map_some, Option.some.injEq] at h; subst h; exact ⟨hu, hk⟩
 ·cases h
theorem kindS_el {t : TypeId} {e : TypeId × SK} (h : kindS P t = some e) : sliceEl P t = some e.2.size := by
 obtain ⟨h1, h2⟩ := kindS_out h
 obtain ⟨_, i, z, hi, _, hs, _⟩ := kindE_out h2
 unfold sliceEl
 simp only [h1, hi, hs]
theorem SK.beq_eq {a c : SK} (h : SK.beq a c = true) : a = c := by cases a <;> cases c <;> first | rfl | cases h
theorem flatT_get {hs : List HT} {i : Nat} {h : HT} (hi : hs[i]? = some h) : (flatT hs)[i * 3]? = some (.int .i64 h.k) ∧ (flatT hs)[i * 3 + 1]? = some (.int .i64 h.n) ∧ (flatT hs)[i * 3 + 2]? = some h.sl := by
 induction hs generalizing i with
 | nil => simp at hi
 | cons x hs ih =>
  rw [flatT_cons]
  cases i with
  | zero => simp at hi; subst hi; exact ⟨rfl, rfl, rfl⟩
  | succ i =>
   have := ih (i := i) (by simpa using hi)
   rw [show (i + 1) * 3 = i * 3 + 1 + 1 + 1 by omega]
   exact this
theorem RdL_cells {b : Nat} : ∀ {ts : List HT} {off : Nat}, RdL Z w b off ts → CellsAt w b off (flatT ts)
 | [], _, _, i, x, hx => by simp [flatT_nil] at hx
 | t :: ts, off, h, i, x, hx => by
  simp only [RdL] at h
  rw [flatT_cons] at hx
  match i, hx with
  | 0, hx => simp at hx; subst hx; simpa using h.1.1
  | 1, hx => simp at hx; subst hx; exact h.1.2.1
  | 2, hx => simp at hx; subst hx; exact h.1.2.2
  | i + 3, hx =>
   have := RdL_cells h.2.2 i x (by simpa using hx)
   rw [show off + (i + 3) = off + 3 + i by omega]; exact this
theorem RdL_each {b : Nat} : ∀ {ts : List HT} {off : Nat}, RdL Z w b off ts → ∀ t ∈ ts, Rd Z w t
 | [], _, _, t, ht => by cases ht
 | u :: ts, off, h, t, ht => by
  simp only [RdL] at h
  rcases List.mem_cons.1 ht with rfl | ht
  ·exact h.2.1
  ·exact RdL_each h.2.2 t ht
theorem Rd_sl {t : HT} (h : Rd Z w t) : SlR Z w (.ts t.er.kids) t.sl := by
 cases t with | mk k n a cap kids =>
 simp only [Rd] at h
 obtain ⟨h1, h2, h3⟩ := h
 have hk : (HT.mk k n a cap kids).er.kids = kids.map HT.er := HT.er_kids _
 refine ⟨a, cap, flatT kids, ?_, ?_, ?_, ?_, ?_⟩
 ·simp [HT.sl, HT.a, HT.kids, HT.cap, hk, SD.len]
 ·simpa [hk, SD.len] using h2
 ·simpa [hk, SD.len, maxLen] using h3
 ·rcases h1 with rfl | ⟨b, off, ha, hb, hl⟩
  ·exact ⟨[], by simp [hk], rfl, nofun⟩
  ·exact ⟨kids, hk.symm, rfl, RdL_each hl⟩
 ·rcases h1 with rfl | ⟨b, off, ha, hb, hl⟩
  ·exact .inl rfl
  ·exact .inr ⟨b, off, ha, hb, RdL_cells hl⟩
theorem sl_Rd {l : List T} {X : Value} (h : SlR Z w (.ts l) X) (k n : Int) : ∃ t : HT, t.er = .mk k n l ∧ Rd Z w t ∧ t.sl = X ∧ t.k = k ∧ t.n = n := by
 obtain ⟨a, cap, xs, hx, h1, h2, ⟨hs, rfl, rfl, hr⟩, h4⟩ := h
 refine ⟨.mk k n a cap hs, by rw [HT.er_eq]; rfl, ?_, ?_, rfl, rfl⟩
 ·simp only [Rd]
  refine ⟨?_, by simpa [SD.len] using h1, by simpa [SD.len, maxLen] using h2⟩
  rcases h4 with h4 | ⟨b, off, ha, hb, hc⟩
  ·left
   cases hs with
   | nil => rfl
   | cons t ts => rw [flatT_cons] at h4; cases h4
  ·exact .inr ⟨b, off, ha, hb, RdL_of_cells hs off (fun j u hj => hc j u hj) hr⟩
 ·rw [hx]; simp [HT.sl, HT.a, HT.kids, HT.cap, SD.len]
theorem ElemsR.length {D : SD} {xs : List Value} (h : ElemsR Z w D xs) : xs.length = D.len * D.kind.size := by
 cases D with
 | ts l => obtain ⟨hs, rfl, rfl, _⟩ := h; rw [flatT_length]; simp [SD.len, SD.kind, SK.size]
 | is l => simp only [ElemsR] at h; subst h; simp [SD.len, SD.kind, SK.size]
 | iss l => have := All2.mono h (fun _ _ _ h => h) |>.1; simp [SD.len, SD.kind, SK.size, this]
 | ss l => simp only [ElemsR] at h; subst h; simp [SD.len, SD.kind, SK.size]
 | bs l => simp only [ElemsR] at h; subst h; simp [SD.len, SD.kind, SK.size]
theorem lt_of_some {α : Type} {l : List α} {i : Nat} {a : α} (h : l[i]? = some a) : i < l.length := by
 rcases Nat.lt_or_ge i l.length with h' | h'
 ·exact h'
 ·rw [List.getElem?_eq_none h'] at h; cases h
theorem ElemsR.get {D : SD} {xs : List Value} (h : ElemsR Z w D xs) {i : Nat} {k : SE → OR} (hg : D.get i k = some r) :
   ∃ e cs, k e = some r ∧ i < D.len ∧ CellsR Z w e cs ∧ ∀ (j : Nat) v, cs[j]? = some v → xs[i * D.kind.size + j]? = some v := by
 cases D with
 | ts l =>
  obtain ⟨hs, rfl, rfl, hr⟩ := h
  obtain ⟨x, hx, hk⟩ := bind_some hg
  rw [List.getElem?_map] at hx
  obtain ⟨t, ht, rfl⟩ := Option.map_eq_some_iff.1 hx
  have := flatT_get ht
  refine ⟨_, _, hk, by simpa [SD.len] using lt_of_some ht, ⟨t, rfl, hr t (List.mem_of_getElem? ht), rfl⟩, fun j v hv => ?_⟩
  match j, hv with
  | 0, hv => simp at hv; subst hv; exact this.1
  | 1, hv => simp at hv; subst hv; exact this.2.1
  | 2, hv => simp at hv; subst hv; exact this.2.2
  | j + 3, hv => simp at hv
 | is l =>
  simp only [ElemsR] at h; subst h
  obtain ⟨x, hx, hk⟩ := bind_some hg
  refine ⟨_, _, hk, lt_of_some hx, rfl, fun j v hv => ?_⟩
  match j, hv with
  | 0, hv => simp at hv; subst hv; simp [SD.kind, SK.size, hx]
  | j + 1, hv => simp at hv
 | iss l =>
  obtain ⟨x, hx, hk⟩ := bind_some hg
  obtain ⟨X, hX, hr⟩ := All2.get h hx
  refine ⟨_, _, hk, lt_of_some hx, ⟨X, rfl, hr⟩, fun j v hv => ?_⟩
  match j, hv with
  | 0, hv => simp at hv; subst hv; simpa [SD.kind, SK.size] using hX
  | j + 1, hv => simp at hv
 | ss l =>
  simp only [ElemsR] at h; subst h
  obtain ⟨x, hx, hk⟩ := bind_some hg
  refine ⟨_, _, hk, lt_of_some hx, rfl, fun j v hv => ?_⟩
  match j, hv with
  | 0, hv => simp at hv; subst hv; simp [SD.kind, SK.size, hx]
  | j + 1, hv => simp at hv
 | bs l =>
  simp only [ElemsR] at h; subst h
  obtain ⟨x, hx, hk⟩ := bind_some hg
  refine ⟨_, _, hk, lt_of_some hx, rfl, fun j v hv => ?_⟩
  match j, hv with
  | 0, hv => simp at hv; subst hv; simp [SD.kind, SK.size, hx]
  | j + 1, hv => simp at hv
theorem CellsR.cells {e : SE} {cs : List Value} (h : CellsR Z w e cs) : All2 (OneR G Z w) e.cells cs := by
 cases e with
 | t x =>
  obtain ⟨t, rfl, hr, rfl⟩ := h
  refine All2.cons ⟨?_, rfl⟩ (All2.cons ⟨?_, rfl⟩ (All2.cons ⟨Rd_sl hr, rfl⟩ All2.nil))
  ·show _ = _; rw [HT.er_k]
  ·show _ = _; rw [HT.er_n]
 | i n => simp only [CellsR] at h; subst h; exact All2.cons ⟨rfl, rfl⟩ All2.nil
 | ii l =>
  obtain ⟨x, rfl, a, cap, rfl, h1, h2, h3⟩ := h
  refine All2.cons ⟨⟨a, cap, l.map (.int .i64 ·), rfl, h1, h2, rfl, ?_⟩, rfl⟩ All2.nil
  rcases h3 with rfl | h3
  ·exact .inl rfl
  ·exact .inr h3
 | s x => simp only [CellsR] at h; subst h; exact All2.cons ⟨rfl, rfl⟩ All2.nil
 | b c => simp only [CellsR] at h; subst h; exact All2.cons ⟨rfl, rfl⟩ All2.nil
theorem structT_out {n : Nat} (h : structT P t = some n) : ∃ fs i, P.underlying t = some (.struct fs) ∧ P.info? t = some i ∧ i.size = n := by
 unfold structT at h
 split at h
 ·rename_i fs i hu hi
  exact ⟨fs, i, hu, hi, Option.some.inj h⟩
 ·cases h
theorem run_load_one {a : Addr} {X : Value} (ht : scalarT P t = true) (hc : w.cell? a = some X) : (loadVar t a).run P w = .ok X w := by
 unfold scalarT at ht
 cases hu : P.underlying t with
 | none => simp [hu] at ht
 | some de =>
  have hag : (isAgg t).run P w = .ok false w := by
   simp only [isAgg, Sem.run_bind, run_underlying hu, Result.andThen_ok]
   cases de <;> simp_all
  simp [loadVar, Sem.run_bind, hag, load, Sem.run, hc]
theorem run_load_agg {b o n : Nat} {xs : List Value} (ht : structT P t = some n) (hc : CellsAt w b o xs) (hn : xs.length = n) : (loadVar t ⟨b, o, none⟩).run P w = .ok (.agg xs.toArray) w := by
 obtain ⟨fs, i, hu, hi, hs⟩ := structT_out ht
 have hag : (isAgg t).run P w = .ok true w := by
  simp only [isAgg, Sem.run_bind, run_underlying hu, Result.andThen_ok]; rfl
 have hl := run_loadCells_list (P := P) (w := w) ⟨b, o, none⟩ xs (fun j v hj => by rw [addr_add]; exact hc j v hj)
 rw [hn, ← hs] at hl
 simp only [loadVar, Sem.run_bind, hag, Result.andThen_ok, if_true, Go.Dk.run_sizeOf hi, hl, Sem.run_pure]
theorem CellsAt.drop {b o : Nat} {xs : List Value} (h : CellsAt w b o xs) (n : Nat) : CellsAt w b (o + n) (xs.drop n) := fun i x hx => by
 rw [List.getElem?_drop] at hx
 rw [Nat.add_assoc]; exact h (n + i) x hx
theorem CellsAt.take {b o : Nat} {xs : List Value} (h : CellsAt w b o xs) (n : Nat) : CellsAt w b o (xs.take n) := fun i x hx => by
 rw [List.getElem?_take] at hx
 split at hx
 ·exact h i x hx
 ·cases hx
theorem packK_sound {l : List SV} {xs : List Value} {b o : Nat} {k : AV → OR} (hl : All2 (OneR G Z w) l xs) (hc : CellsAt w b o xs) (h : packK P t l k = some r) :
   ∃ v X, k v = some r ∧ (loadVar t ⟨b, o, none⟩).run P w = .ok X w ∧ RV G Z w v X := by
 unfold packK at h
 split at h
 ·rename_i ht
  split at h
  ·rename_i c l'
   obtain ⟨X, xs', rfl, h1, _⟩ := hl.cons_inv
   exact ⟨_, X, h, run_load_one ht (hc 0 X rfl), h1.1, fun _ => h1.2⟩
  ·cases h
 ·split at h
  ·rename_i n hs
   obtain ⟨hn, h⟩ := cond_left h
   simp only [Nat.ble_eq] at hn
   exact ⟨_, .agg (xs.take n).toArray, h, run_load_agg hs (hc.take n) (by rw [List.length_take, ← hl.1]; omega), ⟨_, rfl, hl.take n⟩⟩
  ·cases h
theorem St.cells_at {w0 : World} {M Z0 : Zone} {L : List Res} {φ : Fact} {b : Nat} {T : TypeId} {vs : List Value} (hw : St w0 M Z0 L φ w) (hr : blk b vs T ∈ L) : CellsAt w b 0 vs := by
 intro i x hx
 have := hw.own _ hr
 simp only [blk] at this
 simp [World.cell?, this, hx]
theorem rowR_cells {e sz n : Nat} {X : Value} {xs : List Value} {b off m c : Nat} (h : (rowR e sz X n xs).own w) (hX : X = .slice (some ⟨b, off, none⟩) m c) : off = 0 ∧ m = n ∧ CellsAt w b 0 xs := by
 simp only [rowR] at h
 obtain ⟨_, h⟩ := h
 rcases h with ⟨h, _⟩ | ⟨g, cap, cur, h, _, hg, _, _, _, ht⟩
 ·rw [hX] at h; cases h
 ·rw [hX] at h
  injection h with h1 h2 h3
  injection h1 with h1
  injection h1 with h4 h5
  subst h4 h5 h2
  refine ⟨rfl, rfl, fun i x hx => ?_⟩
  have : cur.toList[i]? = some x := by
   rw [← ht] at hx
   rw [List.getElem?_take] at hx
   split at hx
   ·exact hx
   ·cases hx
  simp only [World.cell?, hg, Nat.zero_add]
  simpa using this
theorem mem_resL : ∀ {h : List AObj} {G : List GO} {j : Nat} {o : AObj} {g : GO} {q : Res}, h[j]? = some o → G[j]? = some g → q ∈ resO o g → q ∈ resL h G
 | [], _, j, o, g, q, hj, _, _ => by simp at hj
 | _ :: _, [], j, o, g, q, _, gj, _ => by simp at gj
 | x :: h, y :: G, 0, o, g, q, hj, gj, hq => by
  simp at hj gj; subst hj gj; simp [resL, hq]
 | x :: h, y :: G, j + 1, o, g, q, hj, gj, hq => by
  simp only [resL, List.mem_append]
  exact .inr (mem_resL (by simpa using hj) (by simpa using gj) hq)
end
section
variable {P : Program} {w0 w : World} {M Z0 : Zone} {b : Nat} {G : List GO} {s : AS} {tv : List Value}
abbrev zn (w0 : World) (Z0 : Zone) (s : AS) (G : List GO) : Zone := zone w0 Z0 (resL s.heap G)
theorem InvG.cells (hI : InvG w0 M Z0 b G s tv w) {j : Nat} {l : List SV} (hj : s.heap[j]? = some (.cells l)) :
   ∃ bb T vs, G[j]? = some (.cells bb T vs) ∧ All2 (OneR G (zn w0 Z0 s G) w) l vs ∧ CellsAt w bb 0 vs ∧ blk bb vs T ∈ resL s.heap G := by
 obtain ⟨g, hg, hr⟩ := hI.st.per.2.get hj
 cases g with
 | cells bb T vs =>
  have hm : blk bb vs T ∈ resL s.heap G := mem_resL hj hg (by simp [resO])
  exact ⟨bb, T, vs, hg, hr, St.cells_at hI.st hm, hm⟩
 | _ => exact hr.elim
theorem InvG.arr (hI : InvG w0 M Z0 b G s tv w) {j v : Nat} {e : TypeId} {D : SD} {ver : Nat} {fz : Bool} (hj : s.heap[j]? = some (.arr e D ver fz)) :
   ∃ val xs, G[j]? = some (.arr ver val D.kind.size xs) ∧ cond fz (SlR (zn w0 Z0 s G) w D val) (ElemsR (zn w0 Z0 s G) w D xs ∧ ∃ a c, val = .slice a D.len c) := by
 obtain ⟨g, hg, hr⟩ := hI.st.per.2.get hj
 cases g with
 | arr ver' val sz xs => obtain ⟨rfl, rfl, h3⟩ := hr; exact ⟨val, xs, hg, h3⟩
 | _ => exact hr.elim
theorem own_val {j v : Nat} {X val : Value} {ver sz : Nat} {xs : List Value} {Z : Zone} (hx : RS G Z w (.own j v) X) (hg : G[j]? = some (.arr ver val sz xs)) (hv : v = ver) : X = val := by
 rcases hx with hx | ⟨ver', val', sz', xs', hx, _, he⟩
 ·rw [hg] at hx; cases hx
 ·rw [hg] at hx
  injection hx with hx
  injection hx with h1 h2 h3 h4
  subst h1 h2
  exact he hv
theorem ptr_val {j o : Nat} {X : Value} {bb : Nat} {T : TypeId} {vs : List Value} {Z : Zone} (hx : RS G Z w (.ptr j o) X) (hg : G[j]? = some (.cells bb T vs)) : X = pv bb o := by
 rcases hx with hx | ⟨b', T', vs', hx, he⟩
 ·rw [hg] at hx; cases hx
 ·rw [hg] at hx
  injection hx with hx
  injection hx with h1 h2 h3
  subst h1; exact he
def RdS (Z : Zone) (w : World) (D : SD) (X : Value) : Prop := ∃ a c ys, X = .slice a D.len c ∧ D.len ≤ maxLen ∧ ElemsR Z w D ys ∧ (ys = [] ∨ ∃ b off, a = some ⟨b, off, none⟩ ∧ CellsAt w b off ys)
theorem SlR.rd {Z : Zone} {D : SD} {X : Value} (h : SlR Z w D X) : RdS Z w D X := by
 obtain ⟨a, c, ys, hx, h1, h2, h3, h4⟩ := h
 exact ⟨a, c, ys, hx, h2, h3, h4.imp id fun ⟨b, off, ha, _, hc⟩ => ⟨b, off, ha, hc⟩⟩
theorem RdS.ne {Z : Zone} {D : SD} {X : Value} (h : RdS Z w D X) (hl : 0 < D.len) : ∃ b off c ys, X = .slice (some ⟨b, off, none⟩) D.len c ∧ ElemsR Z w D ys ∧ CellsAt w b off ys := by
 obtain ⟨a, c, ys, hx, h2, h3, h4⟩ := h
 rcases h4 with rfl | ⟨b, off, rfl, hc⟩
 ·have := h3.length
  have hp := SK.size_pos D.kind
  have : 0 < D.len * D.kind.size := Nat.mul_pos hl hp
  simp at *; omega
 ·exact ⟨b, off, c, ys, hx, h3, hc⟩
theorem InvG.arr_rd (hI : InvG w0 M Z0 b G s tv w) {j : Nat} {e : TypeId} {D : SD} {ver : Nat} {fz : Bool} (hj : s.heap[j]? = some (.arr e D ver fz)) :
   ∃ val xs, G[j]? = some (.arr ver val D.kind.size xs) ∧ RdS (zn w0 Z0 s G) w D val := by
 obtain ⟨val, xs, hg, hh⟩ := hI.arr (v := 0) hj
 cases fz with
 | true => exact ⟨val, xs, hg, SlR.rd hh⟩
 | false =>
  obtain ⟨h1, a, c, hx⟩ := hh
  have hm : rowZ e D.kind.size val D.len xs ∈ resL s.heap G := mem_resL hj hg (by simp [resO])
  have ho := hI.st.own _ hm
  refine ⟨val, xs, hg, ?_⟩
  subst hx
  unfold rowZ at ho
  split at ho
  ·rename_i a' _ he
   obtain ⟨h0, rfl, _⟩ := ho
   exact ⟨a, c, [], rfl, by rw [h0]; exact Nat.zero_le _, h1, .inl rfl⟩
  ·rename_i v hne
   have ho' := ho
   simp only [rowR] at ho
   rcases ho.2 with ⟨h2, _⟩ | ⟨g, cap, cur, h2, _, _, hn, hm, _, _⟩
   ·injection h2 with _ _ h3; subst h3; exact absurd rfl (hne a D.len)
   ·injection h2 with h3 h4 h5
    subst h3 h5
    exact ⟨_, _, xs, rfl, Nat.le_trans hn hm, h1, .inr ⟨g, 0, rfl, (rowR_cells ho' rfl).2.2⟩⟩
theorem evLoad_addr (hI : InvG w0 M Z0 b G s tv w) {t : TypeId} {VX : Value} {vx : AV} {k : AV → OR} {r : List V1 × List AObj}
   (hx : RV G (zn w0 Z0 s G) w vx VX) (h : evLoad P t vx s.heap k = some r) :
   ∃ v X bb o, k v = some r ∧ VX = pv bb o ∧ (loadVar t ⟨bb, o, none⟩).run P w = .ok X w ∧ RV G (zn w0 Z0 s G) w v X := by
 unfold evLoad at h
 split at h
 ·rename_i j off
  split at h
  ·rename_i l hj
   obtain ⟨bb, T, vs, hg, ha, hc, _⟩ := hI.cells hj
   obtain ⟨v, X, h1, h2, h3⟩ := packK_sound (ha.drop off) (hc.drop off) h
   exact ⟨v, X, _, _, h1, by rw [Nat.zero_add]; exact ptr_val hx.1 hg, h2, h3⟩
  ·cases h
 ·rename_i e off
  obtain ⟨bb, o, cs, hp, hb, hc, hr⟩ := hx.1
  obtain ⟨v, X, h1, h2, h3⟩ := packK_sound (hr.cells.drop off) (hc.drop off) h
  exact ⟨v, X, _, _, h1, hp, h2, h3⟩
 ·rename_i j v i off
  split at h
  ·rename_i D ver fz hj
   obtain ⟨hv, h⟩ := cond_left h
   simp only [Nat.beq_eq] at hv
   obtain ⟨val, xs, hg, a, c, ys, hval, _, he, hc⟩ := hI.arr_rd hj
   obtain ⟨el, cs, h, hlt, hr, hsub⟩ := he.get h
   rcases hx.1 with hx | ⟨ver', val', sz', xs', hx, _, hh⟩
   ·rw [hg] at hx; cases hx
   ·rw [hg] at hx
    injection hx with hx
    injection hx with e1 e2 e3 e4
    subst e1 e2 e3
    obtain ⟨bb, o, n, c', hs, hi, hp⟩ := hh hv
    have hcs : CellsAt w bb (o + i * D.kind.size) cs := by
     rcases hc with rfl | ⟨b1, o1, ha, hc⟩
     ·intro q u hq; have := hsub q u hq; simp at this
     ·rw [hval, ha] at hs
      injection hs with hs _ _
      injection hs with hs
      injection hs with e1 e2
      subst e1 e2
      intro q u hq; rw [Nat.add_assoc]; exact hc _ u (hsub q u hq)
    obtain ⟨v, X, h1, h2, h3⟩ := packK_sound (hr.cells.drop off) (hcs.drop off) h
    exact ⟨v, X, _, _, h1, hp, h2, h3⟩
  ·cases h
 ·cases h
theorem evLoad_sound (hI : InvG w0 M Z0 b G s tv w) {ρ : Operand → Value} {x : Operand} {d : Option Tmp} {ty t : TypeId} {pos : String} {aft : Array Edge} {gd : Option (Nat × Bool)} {vx : AV} {k : AV → OR} {r : List V1 × List AObj}
   (hx : RV G (zn w0 Z0 s G) w vx (ρ x)) (h : evLoad P t vx s.heap k = some r) :
   ∃ v X, k v = some r ∧ (execOp ρ ⟨d, .load t x, ty, pos, aft, gd⟩).run P w = .ok (.value X) w ∧ RV G (zn w0 Z0 s G) w v X := by
 obtain ⟨v, X, bb, o, h1, hp, hr, hv⟩ := evLoad_addr hI hx h
 refine ⟨v, X, h1, ?_, hv⟩
 simp [execOp, Instr.loadAt, hp, pv, Instr.sureAddr, Sem.run_bind, hr]
theorem SK.nil_len (k : SK) : k.nil.len = 0 := by cases k <;> rfl
theorem SK.nil_kind (k : SK) : k.nil.kind = k := by cases k <;> rfl
theorem ElemsR_nil {Z : Zone} (k : SK) : ElemsR Z w k.nil [] := by cases k <;> first | exact ⟨[], rfl, rfl, nofun⟩ | rfl | exact All2.nil
theorem RdS_nil {Z : Zone} (k : SK) (a : Option Addr) : RdS Z w k.nil (.slice a 0 0) := ⟨a, 0, [], by rw [k.nil_len], by rw [k.nil_len]; exact Nat.zero_le _, ElemsR_nil k, .inl rfl⟩
theorem SlR_nil {Z : Zone} (k : SK) (a : Option Addr) : SlR Z w k.nil (.slice a 0 0) := ⟨a, 0, [], by rw [k.nil_len], by rw [k.nil_len]; exact Nat.le_refl _, by rw [k.nil_len]; exact Nat.zero_le _, ElemsR_nil k, .inl rfl⟩
variable {ρ : Operand → Value} {x y : Operand} {d : Option Tmp} {ty t t' : TypeId} {pos : String} {aft : Array Edge} {gd : Option (Nat × Bool)} {vx vy : AV} {r : List V1 × List AObj} {X : Value}
theorem readS_sound (hI : InvG w0 M Z0 b G s tv w) {v : SV} {k : SD → OR} (hx : RS G (zn w0 Z0 s G) w v X) (h : readS s.heap v k = some r) : ∃ D, k D = some r ∧ RdS (zn w0 Z0 s G) w D X := by
 unfold readS at h
 split at h
 ·exact ⟨_, h, SlR.rd hx⟩
 ·obtain ⟨a, rfl⟩ := hx
  exact ⟨_, h, RdS_nil _ _⟩
 ·split at h
  ·rename_i hj
   obtain ⟨hv, h'⟩ := cond_left h
   simp only [Nat.beq_eq] at hv
   obtain ⟨val, xs, hg, hr⟩ := hI.arr_rd hj
   rw [own_val hx hg hv]
   exact ⟨_, h', hr⟩
  ·cases h
 ·cases h
theorem evLen_sound (hI : InvG w0 M Z0 b G s tv w) {k : SV → OR} (hx : RV G (zn w0 Z0 s G) w vx (ρ x)) (h : evLen P t vx s.heap k = some r) :
   ∃ v X, k v = some r ∧ (execOp ρ ⟨d, .call ⟨.builtin .len, #[x], #[t]⟩, ty, pos, aft, gd⟩).run P w = .ok (.value X) w ∧ OneR G (zn w0 Z0 s G) w v X := by
 unfold evLen at h
 split at h
 ·split at h
  ·rename_i hu
   exact ⟨_, _, h, (Y_lenStr (S := fun _ => True) (by simp [isStrT, hu]) (str_inv hx)).out w trivial, int_one _ _⟩
  ·cases h
 ·split at h
  ·rename_i hk
   obtain ⟨a, hX⟩ := hx.1
   exact ⟨_, _, h, (Y_lenSlice (S := fun _ => True) (kindS_el hk) hX).out w trivial, int_one _ _⟩
  ·cases h
 ·split at h
  ·rename_i hk
   obtain ⟨D, h', a, c, ys, hX, _⟩ := readS_sound hI hx.1 h
   exact ⟨_, _, h', (Y_lenSlice (S := fun _ => True) (kindS_el hk) hX).out w trivial, int_one _ _⟩
  ·cases h
 ·cases h
theorem SlR.get {Z : Zone} {D : SD} {i : Nat} {k : SE → OR} (h : SlR Z w D X) (hg : D.get i k = some r) :
   ∃ e bb off c, k e = some r ∧ X = .slice (some ⟨bb, off, none⟩) D.len c ∧ i < D.len ∧ EpR Z w e 0 (pv bb (off + i * D.kind.size)) := by
 obtain ⟨a, c, ys, hx, h1, h2, h3, h4⟩ := h
 obtain ⟨e, cs, hk, hlt, hr, hsub⟩ := h3.get hg
 rcases h4 with rfl | ⟨bb, off, rfl, hb, hc⟩
 ·cases cs with
  | nil => exact absurd rfl hr.ne
  | cons u cs => have := hsub 0 u rfl; simp at this
 ·exact ⟨e, bb, off, c, hk, hx, hlt, bb, off + i * D.kind.size, cs, rfl, hb, fun q u hq => by rw [Nat.add_assoc]; exact hc _ u (hsub q u hq), hr⟩
theorem evIndexAddr_sound (hI : InvG w0 M Z0 b G s tv w) {k : SV → OR} (hx : RV G (zn w0 Z0 s G) w vx (ρ x)) (hy : RV G (zn w0 Z0 s G) w vy (ρ y)) (h : evIndexAddr P t vx vy s.heap k = some r) :
   ∃ v X, k v = some r ∧ (execOp ρ ⟨d, .indexAddr t x y, ty, pos, aft, gd⟩).run P w = .ok (.value X) w ∧ OneR G (zn w0 Z0 s G) w v X := by
 unfold evIndexAddr at h
 split at h
 ·cases h
 ·rename_i e hk
  obtain ⟨i, hY, h⟩ := optInt_some h hy
  obtain ⟨hi, h⟩ := cond_left h
  have hi : 0 ≤ i := by simpa using hi
  split at h
  ·rename_i D
   obtain ⟨he, h⟩ := cond_left h
   have he := SK.beq_eq he
   obtain ⟨el, bb, off, c, h, hX, hlt, hp⟩ := SlR.get hx.1 h
   refine ⟨_, _, h, (Y_indexAddr (S := fun _ => True) (kindS_el hk) hX hY ⟨hi, by omega⟩).out w trivial, ?_, rfl⟩
   rw [he]; exact hp
  ·split at h
   ·rename_i j v D ver _ hj
    obtain ⟨hv, h⟩ := cond_left h
    simp only [Bool.and_eq_true, Nat.beq_eq] at hv
    have he := SK.beq_eq hv.2
    obtain ⟨hlt, h⟩ := cond_left h
    have hlt : i < D.len := by simpa using hlt
    obtain ⟨val, xs, hg, hr⟩ := hI.arr_rd hj
    obtain ⟨bb, off, c, ys, hX, _⟩ := hr.ne (by omega)
    have hX' := own_val hx.1 hg hv.1
    refine ⟨_, _, h, (Y_indexAddr (S := fun _ => True) (kindS_el hk) (hX'.trans hX) hY ⟨hi, hlt⟩).out w trivial, .inr ⟨ver, val, D.kind.size, xs, hg, by omega, fun _ => ⟨bb, off, D.len, c, hX, by omega, ?_⟩⟩, rfl⟩
    rw [he]; rfl
   ·cases h
  ·cases h
theorem kind0_b {e : TypeId} (h : kind0 P e = some .b) : P.underlying e = some (.int .u8) := by
 unfold kind0 at h
 split at h
 ·split at h <;> cases h
 ·cases h
 ·rename_i hu; exact hu
 ·cases h
 ·split at h <;> cases h
 ·cases h
theorem bs_list {l : List UInt8} {ys : List Value} {Z : Zone} (h : ElemsR Z w (.bs l) ys) : ys = l.map fun c => .int .u8 (c.toNat : Int) := h
theorem evConv_sound (hI : InvG w0 M Z0 b G s tv w) {k : SV → OR} (hx : RV G (zn w0 Z0 s G) w vx (ρ x)) (h : evConv P t t' vx s.heap k = some r) :
   ∃ v X, k v = some r ∧ (execOp ρ ⟨d, .convert t t' x, ty, pos, aft, gd⟩).run P w = .ok (.value X) w ∧ OneR G (zn w0 Z0 s G) w v X := by
 unfold evConv at h
 split at h
 ·split at h
  ·rename_i h1 h2
   exact ⟨_, _, h, by simp [go_sem, execOp, convert, (int_inv hx), Sem.run_bind, run_underlying h1, run_underlying h2, Conv.intToInt], int_one _ _⟩
  ·cases h
 ·split at h
  ·rename_i h1 h2
   obtain ⟨D, h', a, c, ys, hX, hmx, he, hc⟩ := readS_sound hI hx.1 h
   split at h'
   ·rename_i l
    obtain ⟨h3, h4⟩ := kindS_out h1
    have h5 := kind0_b (kindE_out h4).1
    have he := bs_list he
    refine ⟨_, _, h', ?_, str_one _⟩
    have key : (Conv.bytesToString (ρ x)).run P w = .ok (.string ⟨l.toArray⟩) w := by
     rw [hX]
     have hfold : ∀ (l : List UInt8) (s : ByteArray), ((l.map fun c => (c.toNat : Int)).foldl (fun r n => r.push (UInt8.ofNat n.toNat)) s) = ⟨s.data ++ l.toArray⟩ := by
      intro l
      induction l with
      | nil => intro s; simp
      | cons c l ih => intro s; simp only [List.map_cons, List.foldl_cons, ih]; simp [ByteArray.push]
     cases a with
     | none =>
      rcases hc with rfl | ⟨_, _, ha, _⟩
      ·cases l with
       | nil => rfl
       | cons c l => simp at he
      ·cases ha
     | some a =>
      have hl : (loadCells a (SD.bs l).len).run P w = .ok ((l.map fun c => (c.toNat : Int)).map (Value.int .u8)).toArray w := by
       have : ((l.map fun c => (c.toNat : Int)).map (Value.int .u8)) = ys := by rw [he]; simp
       rw [this]
       have hlen : (SD.bs l).len = ys.length := by rw [he]; simp [SD.len]
       rw [hlen]
       refine run_loadCells_list w a ys fun j v hj => ?_
       rcases hc with rfl | ⟨b1, o1, ha, hc⟩
       ·simp at hj
       ·injection ha with ha; subst ha; rw [addr_add]; exact hc j v hj
      rw [run_bytesToString w a _ c _ hl, hfold]
      simp
    rw [hX] at key
    simp only [execOp, hX, Sem.run_bind, run_convert_bytes_string w t t' _ a _ c h3 h5 h2, key, Result.andThen_ok, Sem.run_pure]
   ·cases h'
  ·cases h
 ·cases h
theorem InvG.liveC (hI : InvG w0 M Z0 b G s tv w) {j : Nat} (h : liveC s.heap j = true) : ∃ bb T vs, G[j]? = some (.cells bb T vs) := by
 unfold Go.Ab.liveC at h
 split at h
 ·rename_i hj; obtain ⟨bb, T, vs, hg, _⟩ := hI.cells hj; exact ⟨bb, T, vs, hg⟩
 ·cases h
theorem InvG.liveA (hI : InvG w0 M Z0 b G s tv w) {j v : Nat} (h : liveA s.heap j v = true) : ∃ val sz xs, G[j]? = some (.arr v val sz xs) := by
 unfold Go.Ab.liveA at h
 split at h
 ·rename_i hj; obtain ⟨val, xs, hg, _⟩ := hI.arr_rd hj; simp only [Nat.beq_eq] at h; subst h; exact ⟨val, _, xs, hg⟩
 ·cases h
theorem op_val {Z : Zone} {j v i o : Nat} {val : Value} {sz : Nat} {xs : List Value} (hx : RS G Z w (.op j v i o) X) (hg : G[j]? = some (.arr v val sz xs)) :
   ∃ bb off n c, val = .slice (some ⟨bb, off, none⟩) n c ∧ i < n ∧ X = pv bb (off + i * sz + o) := by
 rcases hx with hx | ⟨ver', val', sz', xs', hx, _, he⟩
 ·rw [hg] at hx; cases hx
 ·rw [hg] at hx
  injection hx with hx
  injection hx with h1 h2 h3 h4
  subst h1 h2 h3
  exact he rfl
theorem evField_sound (hI : InvG w0 M Z0 b G s tv w) {i D : Nat} {k : SV → OR} (hx : RV G (zn w0 Z0 s G) w vx (ρ x)) (hf : fieldOff P t i = some D) (h : evField s.heap D vx k = some r) :
   ∃ v X, k v = some r ∧ (execOp ρ ⟨d, .fieldAddr t x i, ty, pos, aft, gd⟩).run P w = .ok (.value X) w ∧ OneR G (zn w0 Z0 s G) w v X := by
 unfold evField at h
 split at h
 ·obtain ⟨hl, h⟩ := cond_left h
  obtain ⟨bb, T, vs, hg⟩ := hI.liveC hl
  exact ⟨_, _, h, (Y_fieldAddr (S := fun _ => True) hf (ptr_val hx.1 hg)).out w trivial, .inr ⟨bb, T, vs, hg, rfl⟩, rfl⟩
 ·obtain ⟨bb, off, cs, hX, hb, hc, hr⟩ := hx.1
  exact ⟨_, _, h, (Y_fieldAddr (S := fun _ => True) hf hX).out w trivial, ⟨bb, off, cs, by rw [Nat.add_assoc], hb, hc, hr⟩, rfl⟩
 ·obtain ⟨hl, h⟩ := cond_left h
  obtain ⟨val, sz, xs, hg⟩ := hI.liveA hl
  obtain ⟨bb, off, n, c, hv, hi, hX⟩ := op_val hx.1 hg
  exact ⟨_, _, h, (Y_fieldAddr (S := fun _ => True) hf hX).out w trivial, .inr ⟨_, val, sz, xs, hg, Nat.le_refl _, fun _ => ⟨bb, off, n, c, hv, hi, by rw [Nat.add_assoc]; rfl⟩⟩, rfl⟩
 ·cases h
theorem run_nilCheck {bb o : Nat} (h : ρ x = pv bb o) : (execOp ρ ⟨d, .nilCheck x, ty, pos, aft, gd⟩).run P w = .ok (.value (pv bb o)) w := (Y_nilCheck (S := fun _ => True) h).out w trivial
theorem evNil_sound (hI : InvG w0 M Z0 b G s tv w) {k : SV → OR} (hx : RV G (zn w0 Z0 s G) w vx (ρ x)) (h : evNil s.heap vx k = some r) :
   ∃ v X, k v = some r ∧ (execOp ρ ⟨d, .nilCheck x, ty, pos, aft, gd⟩).run P w = .ok (.value X) w ∧ OneR G (zn w0 Z0 s G) w v X := by
 unfold evNil at h
 split at h
 ·obtain ⟨hl, h⟩ := cond_left h
  obtain ⟨bb, T, vs, hg⟩ := hI.liveC hl
  exact ⟨_, _, h, run_nilCheck (ptr_val hx.1 hg), .inr ⟨bb, T, vs, hg, rfl⟩, rfl⟩
 ·obtain ⟨bb, off, cs, hX, hb, hc, hr⟩ := hx.1
  exact ⟨_, _, h, run_nilCheck hX, ⟨bb, off, cs, rfl, hb, hc, hr⟩, rfl⟩
 ·obtain ⟨hl, h⟩ := cond_left h
  obtain ⟨val, sz, xs, hg⟩ := hI.liveA hl
  obtain ⟨bb, off, n, c, hv, hi, hX⟩ := op_val hx.1 hg
  exact ⟨_, _, h, run_nilCheck hX, .inr ⟨_, val, sz, xs, hg, Nat.le_refl _, fun _ => ⟨bb, off, n, c, hv, hi, rfl⟩⟩, rfl⟩
 ·obtain ⟨bs, hX, hh⟩ := hx.1
  exact ⟨_, _, h, (Y_nilCheckF (S := fun _ => True) hX).out w trivial, ⟨bs, rfl, hh⟩, rfl⟩
 ·cases h
theorem evIndex_sound {Z : Zone} {k : SV → OR} (hx : RV G Z w vx (ρ x)) (hy : RV G Z w vy (ρ y)) (h : evIndex P t vx vy k = some r) :
   ∃ v X, k v = some r ∧ (execOp ρ ⟨d, .index t x y, ty, pos, aft, gd⟩).run P w = .ok (.value X) w ∧ OneR G Z w v X := by
 unfold evIndex at h
 split at h
 ·obtain ⟨n, hY, h⟩ := optInt_some h hy
  obtain ⟨hn, h⟩ := cond_left h
  simp only [Bool.and_eq_true, decide_eq_true_eq] at hn
  split at h
  ·rename_i hu
   exact ⟨_, _, h, (Y_indexStr (S := fun _ => True) (by simp [isStrT, hu]) (str_inv hx) hY ⟨hn.1, by omega⟩).out w trivial, int_one _ _⟩
  ·cases h
 ·cases h
theorem evExtract_sound {Z : Zone} {i : Nat} {k : AV → OR} (hx : RV G Z w vx (ρ x)) (h : evExtract vx i k = some r) :
   ∃ v X, k v = some r ∧ (execOp ρ ⟨d, .extract x i, ty, pos, aft, gd⟩).run P w = .ok (.value X) w ∧ RV G Z w v X := by
 unfold evExtract at h
 split at h
 ·obtain ⟨v, hv, h⟩ := bind_some h
  obtain ⟨xs, hX, hh⟩ := hx
  obtain ⟨X, hX', hr⟩ := hh.get hv
  exact ⟨_, X, h, (Y_extract (S := fun _ => True) hX (by simpa using hX')).out w trivial, hr⟩
 ·cases h
theorem evMax_sound {Z : Zone} {mx : Bool} {tys : Array TypeId} {k : SV → OR} (hx : RV G Z w vx (ρ x)) (hy : RV G Z w vy (ρ y)) (h : evMax mx vx vy k = some r) :
   ∃ v X, k v = some r ∧ (execOp ρ ⟨d, .call ⟨.builtin (cond mx .max .min), #[x, y], tys⟩, ty, pos, aft, gd⟩).run P w = .ok (.value X) w ∧ OneR G Z w v X := by
 unfold evMax at h
 split at h
 ·obtain ⟨hk, h'⟩ := cond_left h
  obtain rfl := ikEq_eq hk
  refine ⟨_, _, h', ?_, int_one _ _⟩
  cases mx
  ·simp [execOp, resolve, invoke, builtin, Builtin.min_, Builtin.min2, (int_inv hx), (int_inv hy), Sem.run_bind, Sem.run_pure, Int.min_def]
   split <;> split <;> first | rfl | omega
  ·simp [execOp, resolve, invoke, builtin, Builtin.max_, Builtin.max2, (int_inv hx), (int_inv hy), Sem.run_bind, Sem.run_pure, Int.max_def]
   split <;> split <;> first | rfl | omega
 ·cases h
theorem capsOf_sound (hI : InvG w0 M Z0 b G s tv w) : ∀ {vs : List AV} {xs : List Value} {l : List Nat}, All2 (RV G (zn w0 Z0 s G) w) vs xs → capsOf s.heap vs = some l →
   ∃ bs : List Nat, xs = bs.map (fun b => pv b 0) ∧ All2 (fun j b => G[j]? = some .gone ∨ ∃ T vs, G[j]? = some (.cells b T vs)) l bs
 | [], xs, l, ha, h => by
  obtain rfl := ha.nil_inv
  simp only [capsOf, Option.some.injEq] at h
  subst h
  exact ⟨[], rfl, All2.nil⟩
 | v :: vs, xs, l, ha, h => by
  obtain ⟨X, xs', rfl, h1, h2⟩ := ha.cons_inv
  unfold capsOf at h
  split at h
  ·rename_i e; cases e
  ·rename_i j vs' e
   simp only [List.cons.injEq] at e
   obtain ⟨rfl, rfl⟩ := e
   cases hl : liveC s.heap j with
   | false => simp [hl] at h
   | true =>
    simp only [hl, cond_true, Option.map_eq_some_iff] at h
    obtain ⟨l', hl', rfl⟩ := h
    obtain ⟨bs, rfl, hh⟩ := capsOf_sound hI h2 hl'
    obtain ⟨bb, T, vs0, hg⟩ := hI.liveC hl
    exact ⟨bb :: bs, by rw [List.map_cons, ptr_val h1.1 hg], All2.cons (.inr ⟨T, vs0, hg⟩) hh⟩
  ·cases h
end
end Go.Ab
namespace Go.Ab
open Go Go.Dk
section
variable {P : Program} {w0 w w' : World} {M Z0 : Zone} {b : Nat} {G : List GO} {s : AS} {tv : List Value}
theorem zn_le {Z : Zone} {L L' : List Res} (h : ∀ r ∈ L', r ∈ L) : ∀ k, zone w0 Z0 L k → zone w0 Z0 L' k := fun k hk => ⟨hk.1, fun r hr => hk.2 r (h r hr)⟩
theorem keeps_le {Z Z' : Zone} (h : ∀ k, Z k → Z' k) : Keeps Z Z' w w := fun k hk _ => ⟨h k hk, rfl⟩
theorem InvG.put (hI : InvG w0 M Z0 b G s tv w) (d : Option Tmp) {v : AV} {X : Value} (h : RV G (zn w0 Z0 s G) w v X) :
   InvG w0 M Z0 b G (s.put d v) (match d with | some d => tv.set d X | none => tv) w := by
 cases d with
 | none => exact hI
 | some d => exact ⟨hI.st.weak (relF_stable _ _ _) fun hp => ⟨hp.1.set d h, hp.2⟩, hI.fresh, hI.mz⟩
theorem InvG.len (hI : InvG w0 M Z0 b G s tv w) : s.heap.length = G.length := hI.st.per.2.1
theorem set_same {α : Type} {l : List α} {j : Nat} {a : α} (h : l[j]? = some a) : l.set j a = l := by
 apply List.ext_getElem?
 intro i
 by_cases hi : j = i
 ·subst hi; rw [List.getElem?_set_self (lt_of_some h), h]
 ·rw [List.getElem?_set_ne hi]
theorem InvG.freezeAt (hI : InvG w0 M Z0 b G s tv w) {j : Nat} {e : TypeId} {D : SD} {ver : Nat} {fz : Bool} (hj : s.heap[j]? = some (.arr e D ver fz)) :
   InvG w0 M Z0 b G ⟨s.tmps, s.heap.set j (.arr e D ver true)⟩ tv w ∧ (∀ k, zn w0 Z0 s G k → zn w0 Z0 ⟨s.tmps, s.heap.set j (.arr e D ver true)⟩ G k) := by
 cases fz with
 | true => rw [set_same hj]; exact ⟨hI, fun _ h => h⟩
 | false =>
  obtain ⟨val, xs, hg, hrd⟩ := hI.arr_rd hj
  have hP := hI.st.perm (resL_out s.heap G j hj hg)
  have hrest : (resL (s.heap.set j (.arr e D ver true)) G).Perm (resL (s.heap.set j .dead) (G.set j .gone)) := by
   have := resL_out (s.heap.set j (.arr e D ver true)) G j (o := .arr e D ver true) (g := .arr ver val D.kind.size xs) (by simp [lt_of_some hj]) hg
   rw [List.set_set] at this
   simpa [resO] using this
  have hS : St w0 M Z0 (rowZ e D.kind.size val D.len xs :: resL (s.heap.set j .dead) (G.set j .gone)) (relF s G tv) w := by simpa [resO] using hP
  have hT := hS.tail.perm hrest.symm
  have hle : ∀ k, zn w0 Z0 s G k → zone w0 Z0 (resL (s.heap.set j (.arr e D ver true)) G) k := by
   refine zn_le (Z := Z0) fun r hr => ?_
   exact (resL_out s.heap G j hj hg).mem_iff.2 (List.mem_append.2 (.inr (hrest.mem_iff.1 hr)))
  refine ⟨⟨hT.weak (relF_stable _ _ _) fun hp => ⟨hp.1, ?_⟩, hI.fresh, hI.mz⟩, hle⟩
  have := hp.2.set j (a := .arr e D ver true) (b := .arr ver val D.kind.size xs) ⟨rfl, rfl, ?_⟩
  ·rw [set_same hg] at this; exact this
  ·show SlR _ _ _ _
   obtain ⟨a, c, ys, hX, hm, he, hc⟩ := hrd
   have ho := hS.own _ (List.mem_cons_self ..)
   have hcap : D.len ≤ c := by
    subst hX
    unfold rowZ at ho
    split at ho
    ·rename_i he; obtain ⟨h0, _⟩ := ho; rw [h0]; exact Nat.zero_le _
    ·simp only [rowR] at ho
     rcases ho.2 with ⟨h2, h3⟩ | ⟨g, cap, cur, h2, _, _, hn, _⟩
     ·rw [h3]; exact Nat.zero_le _
     ·injection h2 with _ _ h5; omega
   refine ⟨a, c, ys, hX, hcap, hm, he.stable (keeps_le hle), ?_⟩
   rcases hc with hc | ⟨b1, off, ha, hc⟩
   ·exact .inl hc
   ·by_cases hys : ys = []
    ·exact .inl hys
    ·refine .inr ⟨b1, off, ha, ?_, hc⟩
     have hc0 : c ≠ 0 := by
      rintro rfl
      have h0 : D.len = 0 := by omega
      have := he.length
      rw [h0, Nat.zero_mul] at this
      exact hys (List.eq_nil_of_length_eq_zero this)
     have hfoot : (rowZ e D.kind.size val D.len xs).foot b1 := by
      subst hX ha
      unfold rowZ
      split
      ·rename_i he; injection he with _ _ h3; exact absurd h3 hc0
      ·rfl
     have hk := (hS.key _ (List.mem_cons_self ..) b1 hfoot).1
     refine ⟨hk.imp (hI.mz.1 b1) id, fun r hr hf => ?_⟩
     have hd := hS.dis
     rw [List.pairwise_cons] at hd
     exact hd.1 r (hrest.mem_iff.1 hr) b1 hfoot hf
theorem InvG.frozen_val (hI : InvG w0 M Z0 b G s tv w) {j v : Nat} {e : TypeId} {D : SD} {ver : Nat} {X : Value} (hj : s.heap[j]? = some (.arr e D ver true)) (hv : v = ver) (hx : RS G (zn w0 Z0 s G) w (.own j v) X) :
   SlR (zn w0 Z0 s G) w D X := by
 obtain ⟨val, xs, hg, hh⟩ := hI.arr (v := 0) hj
 rw [own_val hx hg hv]; exact hh
structure Sealed (w0 : World) (M Z0 : Zone) (b : Nat) (G : List GO) (s : AS) (tv : List Value) (w : World) (h : List AObj) : Prop where
 inv : InvG w0 M Z0 b G ⟨s.tmps, h⟩ tv w
 le : ∀ k, zn w0 Z0 s G k → zn w0 Z0 ⟨s.tmps, h⟩ G k
 dead : ∀ j : Nat, s.heap[j]? = some .dead → h[j]? = some .dead
theorem Sealed.refl (hI : InvG w0 M Z0 b G s tv w) : Sealed w0 M Z0 b G s tv w s.heap := ⟨hI, fun _ h => h, fun _ h => h⟩
theorem Sealed.trans {h h' : List AObj} (h1 : Sealed w0 M Z0 b G s tv w h) (h2 : Sealed w0 M Z0 b G ⟨s.tmps, h⟩ tv w h') : Sealed w0 M Z0 b G s tv w h' :=
 ⟨h2.inv, fun k hk => h2.le k (h1.le k hk), fun j hj => h2.dead j (h1.dead j hj)⟩
variable {r : List V1 × List AObj}
theorem sealS_sound (hI : InvG w0 M Z0 b G s tv w) {v : SV} {X : Value} {k : SV → List AObj → OR} (hx : OneR G (zn w0 Z0 s G) w v X) (h : sealS s.heap v k = some r) :
   ∃ v' h', k v' h' = some r ∧ Sealed w0 M Z0 b G s tv w h' ∧ OneR G (zn w0 Z0 ⟨s.tmps, h'⟩ G) w v' X := by
 unfold sealS at h
 split at h
 ·rename_i j v
  split at h
  ·rename_i e D ver fz hj
   obtain ⟨hv, h'⟩ := cond_left h
   simp only [Nat.beq_eq] at hv
   obtain ⟨h1, h2⟩ := hI.freezeAt hj
   refine ⟨_, _, h', ⟨h1, h2, fun i hi => ?_⟩, ?_, hx.2⟩
   ·have : j ≠ i := by rintro rfl; rw [hj] at hi; cases hi
    simpa [List.getElem?_set_ne this] using hi
   ·exact h1.frozen_val (e := e) (by simp [lt_of_some hj]) hv (hx.1.stable (keeps_le h2))
  ·cases h
 ·obtain ⟨⟨a, rfl⟩, h2⟩ := hx
  exact ⟨_, _, h, Sealed.refl hI, SlR_nil _ _, h2⟩
 ·exact ⟨_, _, h, Sealed.refl hI, hx⟩
theorem sealL_sound : ∀ {l : List SV} {s : AS} {xs : List Value} {k : List SV → List AObj → OR}, InvG w0 M Z0 b G s tv w → All2 (OneR G (zn w0 Z0 s G) w) l xs → sealL s.heap l k = some r →
   ∃ l' h', k l' h' = some r ∧ Sealed w0 M Z0 b G s tv w h' ∧ All2 (OneR G (zn w0 Z0 ⟨s.tmps, h'⟩ G) w) l' xs
 | [], s, xs, k, hI, ha, h => by
  obtain rfl := ha.nil_inv
  exact ⟨_, _, h, Sealed.refl hI, All2.nil⟩
 | v :: l, s, xs, k, hI, ha, h => by
  obtain ⟨X, xs', rfl, h1, h2⟩ := ha.cons_inv
  unfold sealL at h
  obtain ⟨v', h', hk, hs, hv⟩ := sealS_sound hI h1 h
  obtain ⟨l', h'', hk', hs', hl⟩ := sealL_sound hs.inv (h2.mono fun _ _ _ q => ⟨q.1.stable (keeps_le hs.le), q.2⟩) hk
  exact ⟨_, _, hk', hs.trans hs', All2.cons ⟨hv.1.stable (keeps_le hs'.le), hv.2⟩ hl⟩
def SE.kind : SE → SK | .t _ => .t | .i _ => .i | .ii _ => .ii | .s _ => .s | .b _ => .b
theorem one_int {Z : Zone} {k : IntKind} {n : Int} {X : Value} (h : OneR G Z w (.int k n) X) : X = .int k n := h.1
theorem u8_back {n : Int} (h0 : 0 ≤ n) (h1 : n ≤ 255) : ((UInt8.ofNat n.toNat).toNat : Int) = n := by
 have : (UInt8.ofNat n.toNat).toNat = n.toNat % 256 := by simp
 rw [this]; omega
theorem elemOf_sound {Z : Zone} {e : SK} {l : List SV} {xs : List Value} {k : SE → OR} (ha : All2 (OneR G Z w) l xs) (h : elemOf e l k = some r) :
   ∃ x, k x = some r ∧ CellsR Z w x xs ∧ x.kind = e ∧ (∀ v ∈ xs, oneB v = true) := by
 have h1 : ∀ v ∈ xs, oneB v = true := fun v hv => by
  obtain ⟨i, hi⟩ := List.getElem?_of_mem hv
  obtain ⟨a, _, hr⟩ := ha.get' hi
  exact hr.2
 unfold elemOf at h
 split at h
 ·rename_i a c l
  obtain ⟨x1, m1, rfl, e1, ha⟩ := ha.cons_inv
  obtain ⟨x2, m2, rfl, e2, ha⟩ := ha.cons_inv
  obtain ⟨x3, m3, rfl, e3, ha⟩ := ha.cons_inv
  obtain rfl := ha.nil_inv
  obtain ⟨t, h2, h3, h4, h5, h6⟩ := sl_Rd e3.1 a c
  exact ⟨_, h, ⟨t, h2, h3, by rw [one_int e1, one_int e2, h4, h5, h6]⟩, rfl, h1⟩
 ·obtain ⟨x1, m1, rfl, e1, ha⟩ := ha.cons_inv
  obtain rfl := ha.nil_inv
  exact ⟨_, h, by rw [one_int e1]; rfl, rfl, h1⟩
 ·obtain ⟨x1, m1, rfl, e1, ha⟩ := ha.cons_inv
  obtain rfl := ha.nil_inv
  obtain ⟨a, c, ys, h2, h3, h4, h5, h6⟩ := e1.1
  simp only [ElemsR] at h5
  subst h5
  exact ⟨_, h, ⟨x1, rfl, a, c, h2, h3, h4, h6.imp (fun h => by simpa using h) id⟩, rfl, h1⟩
 ·obtain ⟨x1, m1, rfl, e1, ha⟩ := ha.cons_inv
  obtain rfl := ha.nil_inv
  exact ⟨_, h, by rw [show x1 = _ from e1.1]; rfl, rfl, h1⟩
 ·obtain ⟨x1, m1, rfl, e1, ha⟩ := ha.cons_inv
  obtain rfl := ha.nil_inv
  obtain ⟨hn, h⟩ := cond_left h
  simp only [Bool.and_eq_true, decide_eq_true_eq] at hn
  exact ⟨_, h, by rw [one_int e1]; show _ = _; rw [u8_back hn.1 hn.2], rfl, h1⟩
 ·cases h
theorem snoc_sound {Z : Zone} {D D' : SD} {x : SE} {xs cs : List Value} (hd : ElemsR Z w D xs) (hc : CellsR Z w x cs) (h : D.snoc x = some D') :
   ElemsR Z w D' (xs ++ cs) ∧ D'.len = D.len + 1 ∧ D'.kind = D.kind ∧ cs.length = D.kind.size ∧ x.kind = D.kind := by
 unfold SD.snoc at h
 split at h
 ·obtain rfl := Option.some.inj h
  obtain ⟨hs, rfl, rfl, hr⟩ := hd
  obtain ⟨t, rfl, ht, rfl⟩ := hc
  refine ⟨⟨hs ++ [t], by simp, by rw [flatT_append, flatT_cons, flatT_nil], fun u hu => ?_⟩, by simp [SD.len], rfl, rfl, rfl⟩
  rcases List.mem_append.1 hu with hu | hu
  ·exact hr u hu
  ·rw [List.mem_singleton.1 hu]; exact ht
 ·obtain rfl := Option.some.inj h
  simp only [ElemsR, CellsR] at hd hc; subst hd hc
  exact ⟨by simp [ElemsR], by simp [SD.len], rfl, rfl, rfl⟩
 ·obtain rfl := Option.some.inj h
  obtain ⟨X, rfl, hX⟩ := hc
  exact ⟨All2.append hd (All2.cons hX All2.nil), by simp [SD.len], rfl, rfl, rfl⟩
 ·obtain rfl := Option.some.inj h
  simp only [ElemsR, CellsR] at hd hc; subst hd hc
  exact ⟨by simp [ElemsR], by simp [SD.len], rfl, rfl, rfl⟩
 ·obtain rfl := Option.some.inj h
  simp only [ElemsR, CellsR] at hd hc; subst hd hc
  exact ⟨by simp [ElemsR], by simp [SD.len], rfl, rfl, rfl⟩
 ·cases h
theorem elemsOf_sound {e : SK} : ∀ {cs : List (List SV)} {s : AS} {xss : List (List Value)} {D : SD} {ys : List Value} {k : SD → List AObj → OR}, InvG w0 M Z0 b G s tv w →
   All2 (All2 (OneR G (zn w0 Z0 s G) w)) cs xss → ElemsR (zn w0 Z0 s G) w D ys → D.kind = e → elemsOf e s.heap cs D k = some r →
   ∃ D' h', k D' h' = some r ∧ Sealed w0 M Z0 b G s tv w h' ∧ ElemsR (zn w0 Z0 ⟨s.tmps, h'⟩ G) w D' (ys ++ xss.flatten) ∧ D'.len = D.len + cs.length ∧ D'.kind = e ∧ ∀ x ∈ xss, x.length = e.size ∧ ∀ v ∈ x, oneB v = true
 | [], s, xss, D, ys, k, hI, ha, he, hk, h => by
  obtain rfl := ha.nil_inv
  exact ⟨D, s.heap, h, Sealed.refl hI, by simpa using he, rfl, hk, by simp⟩
 | c :: cs, s, xss, D, ys, k, hI, ha, he, hk, h => by
  obtain ⟨x, xss', rfl, h1, h2⟩ := ha.cons_inv
  unfold elemsOf at h
  obtain ⟨c', h', h, hs, hc⟩ := sealL_sound hI h1 h
  obtain ⟨el, h, hcr, hek, hone⟩ := elemOf_sound hc h
  obtain ⟨D1, hd1, h⟩ := bind_some h
  obtain ⟨g1, g2, g3, g4, g5⟩ := snoc_sound (he.stable (keeps_le hs.le)) hcr hd1
  obtain ⟨D', h'', hk', hs', e1, e2, e3, e4⟩ := elemsOf_sound (k := k) hs.inv (h2.mono fun _ _ _ q => q.mono fun _ _ _ p => ⟨p.1.stable (keeps_le hs.le), p.2⟩) g1 (g3.trans hk) h
  refine ⟨D', h'', hk', hs.trans hs', by rw [List.flatten_cons, ← List.append_assoc]; exact e1, by rw [e2, g2, List.length_cons]; omega, e3, ?_⟩
  intro y hy
  rcases List.mem_cons.1 hy with rfl | hy
  ·exact ⟨by rw [g4, hk], hone⟩
  ·exact e4 y hy
theorem InvG.dead_fresh (hI : InvG w0 M Z0 b G s tv w) {j : Nat} (h : G[j]? = some .fresh) : s.heap[j]? = some .dead := by
 obtain ⟨o, ho, hr⟩ := hI.st.per.2.get' h
 cases o with
 | dead => exact ho
 | _ => exact hr.elim
theorem InvG.newObj (hI : InvG w0 M Z0 b G s tv w) (hb : b < G.length) (hg : Grow w w') {o : AObj} {g : GO} (hq : ∀ q ∈ resO o g, q.own w' ∧ ∀ k, q.foot k → w.heap.size ≤ k ∧ k < w'.heap.size)
   (hro : ∀ Z', Keeps (zn w0 Z0 s G) Z' w w' → RO (G.set b g) Z' w' o g) :
   InvG w0 M Z0 (b + 1) (G.set b g) ⟨s.tmps, s.heap.set b o⟩ tv w' ∧ Keeps (zn w0 Z0 s G) (zn w0 Z0 ⟨s.tmps, s.heap.set b o⟩ (G.set b g)) w w' := by
 have hgb := hI.fresh b (Nat.le_refl _) hb
 have hdead := hI.dead_fresh hgb
 have hbl : b < s.heap.length := by rw [hI.len]; exact hb
 have hin := resL_in (h := s.heap) (G := G) o g hbl hb
 have hP := hI.st.perm (resL_out s.heap G b hdead hgb)
 rw [resO_dead, List.nil_append] at hP
 have hone : resO o g = [] ∨ ∃ q, resO o g = [q] := by
  unfold resO; split
  ·exact .inr ⟨_, rfl⟩
  ·exact .inr ⟨_, rfl⟩
  ·exact .inl rfl
 have hup : Up G (G.set b g) := Up.set fun g0 h0 => by rw [hgb] at h0; obtain rfl := Option.some.inj h0; trivial
 have hfr : ∀ j, b + 1 ≤ j → j < (G.set b g).length → (G.set b g)[j]? = some .fresh := fun j hj hl => by
  rw [List.getElem?_set_ne (by omega)]; exact hI.fresh j (by omega) (by simpa using hl)
 have fin : ∀ {L : List Res}, St w0 M Z0 L (relF s G tv) w' → L.Perm (resL (s.heap.set b o) (G.set b g)) → Keeps (zn w0 Z0 s G) (zone w0 Z0 L) w w' →
    InvG w0 M Z0 (b + 1) (G.set b g) ⟨s.tmps, s.heap.set b o⟩ tv w' ∧ Keeps (zn w0 Z0 s G) (zn w0 Z0 ⟨s.tmps, s.heap.set b o⟩ (G.set b g)) w w' := by
  intro L hs hp hk
  have hk' : Keeps (zn w0 Z0 s G) (zone w0 Z0 (resL (s.heap.set b o) (G.set b g))) w w' := fun k hz hl => ⟨⟨(hk k hz hl).1.1, fun q hq' => (hk k hz hl).1.2 q (hp.mem_iff.2 hq')⟩, (hk k hz hl).2⟩
  refine ⟨⟨(hs.perm hp).weak (relF_stable _ _ _) fun hh => ⟨hh.1.mono fun _ _ _ q => q.up hup, ?_⟩, hfr, hI.mz⟩, hk'⟩
  exact (All2.mono hh.2 fun _ _ _ q => q.up hup).set b (hro _ hk')
 rcases hone with h0 | ⟨q, h1⟩
 ·rw [h0, List.nil_append] at hin
  refine fin (hP.grow hg) hin fun k hz hl => ⟨⟨hz.1, fun q hq' => hz.2 q ?_⟩, hg.blk hl⟩
  exact (resL_out s.heap G b hdead hgb).mem_iff.2 (by rw [resO_dead, List.nil_append]; exact hq')
 ·rw [h1] at hin
  have hqq := hq q (by rw [h1]; exact List.mem_cons_self ..)
  have hql : q.Local := resO_local o g q (by rw [h1]; exact List.mem_cons_self ..)
  refine fin (hP.push hg hql hqq.1 hqq.2) hin fun k hz hl => ⟨⟨hz.1, fun q' hq' => ?_⟩, hg.blk hl⟩
  rcases List.mem_cons.1 hq' with rfl | hq'
  ·intro hf; have := (hqq.2 k hf).1; omega
  ·exact hz.2 q' ((resL_out s.heap G b hdead hgb).mem_iff.2 (by rw [resO_dead, List.nil_append]; exact hq'))
theorem InvG.updObj (hI : InvG w0 M Z0 b G s tv w) {j : Nat} {o o' : AObj} {g g' : GO} {q q' : Res} (hj : s.heap[j]? = some o) (hgj : G[j]? = some g) (hne : g ≠ .fresh) (h1 : resO o g = [q]) (hx : Ext q.foot w w') (h1' : resO o' g' = [q'])
   (ho : q'.own w') (hf : ∀ k, q'.foot k → (q.foot k ∨ w.heap.size ≤ k) ∧ k < w'.heap.size) (hup : Up G (G.set j g'))
   (hro : ∀ Z', Keeps (zn w0 Z0 s G) Z' w w' → RO (G.set j g') Z' w' o' g') :
   InvG w0 M Z0 b (G.set j g') ⟨s.tmps, s.heap.set j o'⟩ tv w' ∧ Keeps (zn w0 Z0 s G) (zn w0 Z0 ⟨s.tmps, s.heap.set j o'⟩ (G.set j g')) w w' := by
 have hjl := lt_of_some hj
 have hgl := lt_of_some hgj
 have hin := resL_in (h := s.heap) (G := G) o' g' hjl hgl
 have hP := hI.st.perm (resL_out s.heap G j hj hgj)
 rw [h1] at hP
 rw [h1'] at hin
 have hU : St w0 M Z0 (q' :: resL (s.heap.set j .dead) (G.set j .gone)) (relF s G tv) w' := by
  have := hP.upd (n := 0) (r := q) (r' := q') rfl hx (resO_local o' g' q' (by rw [h1']; exact List.mem_cons_self ..)) ho hf
  simpa using this
 have hk' : Keeps (zn w0 Z0 s G) (zone w0 Z0 (resL (s.heap.set j o') (G.set j g'))) w w' := fun k hz hl => by
  have hqn : ¬ q.foot k := hz.2 q (mem_resL hj hgj (by rw [h1]; exact List.mem_cons_self ..))
  refine ⟨⟨hz.1, fun p hp => ?_⟩, hx.block k hl hqn⟩
  rcases List.mem_cons.1 (hin.mem_iff.2 hp) with rfl | hp
  ·intro hf'
   rcases (hf k hf').1 with h2 | h2
   ·exact hqn h2
   ·omega
  ·exact hz.2 p ((resL_out s.heap G j hj hgj).mem_iff.2 (List.mem_append.2 (.inr hp)))
 refine ⟨⟨(hU.perm hin).weak (relF_stable _ _ _) fun hh => ⟨hh.1.mono fun _ _ _ p => p.up hup, ?_⟩, fun i hi hl => ?_, hI.mz⟩, hk'⟩
 ·exact (All2.mono hh.2 fun _ _ _ p => p.up hup).set j (hro _ hk')
 ·have : j ≠ i := by
    rintro rfl
    have := hI.fresh j hi hgl
    rw [hgj] at this
    exact hne (Option.some.inj this)
  rw [List.getElem?_set_ne this]; exact hI.fresh i hi (by simpa using hl)
end
end Go.Ab
namespace Go.Ab
open Go Go.Dk
section
variable {P : Program} {w0 w w' : World} {M Z0 : Zone} {b : Nat} {G : List GO} {s : AS} {tv : List Value} {r : List V1 × List AObj}
theorem oneB_cells {X : Value} (h : oneB X = true) : X.cells = #[X] := by cases X <;> first | rfl | (simp [oneB] at h)
theorem cs_sound {Z : Zone} {v : AV} {X : Value} {c : List SV} (h : v.cs = some c) (hx : RV G Z w v X) : ∃ xs : List Value, X.cells = xs.toArray ∧ All2 (OneR G Z w) c xs := by
 unfold AV.cs at h
 split at h
 ·cases h
 ·rename_i v hne
  obtain rfl := Option.some.inj h
  have h1 := hx.2 (fun e => hne (by rw [e]))
  exact ⟨[X], oneB_cells h1, All2.cons ⟨hx.1, h1⟩ All2.nil⟩
 ·obtain rfl := Option.some.inj h
  obtain ⟨xs, rfl, hh⟩ := hx
  exact ⟨xs, rfl, hh⟩
 ·cases h
theorem csL_sound {Z : Zone} : ∀ {vs : List AV} {Xs : List Value} {cs : List (List SV)}, csL vs = some cs → All2 (RV G Z w) vs Xs →
   ∃ xss : List (List Value), Xs.map Value.cells = xss.map List.toArray ∧ All2 (All2 (OneR G Z w)) cs xss
 | [], Xs, cs, h, ha => by
  obtain rfl := ha.nil_inv
  simp only [csL, Option.some.injEq] at h; subst h
  exact ⟨[], rfl, All2.nil⟩
 | v :: vs, Xs, cs, h, ha => by
  obtain ⟨X, Xs', rfl, h1, h2⟩ := ha.cons_inv
  simp only [csL] at h
  cases hv : v.cs with
  | none => simp [hv] at h
  | some c =>
   simp only [hv, Option.bind_some, Option.map_eq_some_iff] at h
   obtain ⟨cs', hcs, rfl⟩ := h
   obtain ⟨xs, he, hh⟩ := cs_sound hv h1
   obtain ⟨xss, he', hh'⟩ := csL_sound hcs h2
   exact ⟨xs :: xss, by simp [he, he'], All2.cons hh hh'⟩
theorem InvG.raise {b' : Nat} (hI : InvG w0 M Z0 b G s tv w) (h : b ≤ b') : InvG w0 M Z0 b' G s tv w := ⟨hI.st, fun j hj hl => hI.fresh j (Nat.le_trans h hj) hl, hI.mz⟩
theorem OneR.mono {Z Z' : Zone} {G' : List GO} {v : SV} {X : Value} (h : OneR G Z w v X) (hk : Keeps Z Z' w w') (hu : Up G G') : OneR G' Z' w' v X := ⟨(h.1.stable hk).up hu, h.2⟩
variable {ρ : Operand → Value} {x y : Operand} {d : Option Tmp} {ty t t' : TypeId} {pos : String} {aft : Array Edge} {gd : Option (Nat × Bool)} {vx vy : AV} {X : Value}
theorem newCells (hI : InvG w0 M Z0 b G s tv w) (hb : b < G.length) {l : List SV} {xs : List Value} (ha : All2 (OneR G (zn w0 Z0 s G) w) l xs) (T : TypeId) :
   InvG w0 M Z0 (b + 1) (G.set b (.cells w.heap.size T xs)) ⟨s.tmps, s.heap.set b (.cells l)⟩ tv (w.alloc (.cells xs.toArray T (0, 0))) ∧
   RV (G.set b (.cells w.heap.size T xs)) (zn w0 Z0 ⟨s.tmps, s.heap.set b (.cells l)⟩ (G.set b (.cells w.heap.size T xs))) (w.alloc (.cells xs.toArray T (0, 0))) (.v (.one (.ptr b 0))) (pv w.heap.size 0) ∧ Up G (G.set b (.cells w.heap.size T xs)) := by
 have hup : Up G (G.set b (.cells w.heap.size T xs)) := Up.set fun g0 h0 => by rw [hI.fresh b (Nat.le_refl _) hb] at h0; obtain rfl := Option.some.inj h0; trivial
 refine ⟨(hI.newObj hb (Grow.alloc _ _) (o := .cells l) (g := .cells w.heap.size T xs) (fun q hq => ?_) (fun Z' hk => ?_)).1, ⟨.inr ⟨w.heap.size, T, xs, by simp [hb], rfl⟩, fun _ => rfl⟩, hup⟩
 ·simp only [resO, List.mem_singleton] at hq
  subst hq
  refine ⟨alloc_get _ _, fun k hk => ?_⟩
  simp only [blk] at hk; subst hk; rw [alloc_size]; omega
 ·exact ha.mono fun _ _ _ q => q.mono hk hup
theorem run_alloc {e : TypeId} {cs : List Value} (hz : zeroB P e = some cs) : (execOp ρ ⟨d, .alloc e, ty, pos, aft, gd⟩).run P w = .ok (.value (pv w.heap.size 0)) (w.alloc (.cells cs.toArray e (0, 0))) := by
 unfold zeroB at hz
 split at hz
 ·rename_i i hi
  split at hz
  ·rename_i z hzz
   obtain rfl := Option.some.inj hz
   have hzv : (zeroValue e).run P w = .ok z w := by
    simp only [zeroValue, Sem.run_bind, Go.Dk.run_typeInfo hi, Result.andThen_ok, hzz, Sem.run_pure]
   simp only [execOp, Instr.alloc, Sem.run_bind, hzv, run_newVar, Result.andThen_ok, Sem.run_pure, Array.toArray_toList]
   rfl
  ·cases hz
 ·cases hz
theorem run_box {e : TypeId} {cs : List Value} (hc : (ρ x).cells = cs.toArray) : (execOp ρ ⟨d, .box e x, ty, pos, aft, gd⟩).run P w = .ok (.value (pv w.heap.size 0)) (w.alloc (.cells cs.toArray e (0, 0))) := by
 simp only [execOp, Instr.box, Sem.run_bind, run_newVar, hc, Result.andThen_ok, Sem.run_pure]
 rfl
theorem zeroS_out {e : TypeId} {z : List SV} (h : zeroS P e = some z) : ∃ cs, zeroB P e = some cs ∧ ∀ G Z w, All2 (OneR G Z w) z cs := by
 unfold zeroS at h
 cases hz : zeroB P e with
 | none => simp [hz] at h
 | some cs =>
  simp only [hz, Option.bind_some] at h
  cases hc : cs.all oneB with
  | false => simp [hc] at h
  | true =>
   simp only [hc, cond_true, Option.some.injEq] at h
   subst h
   exact ⟨cs, rfl, fun G Z w => svsOf_rel _ _ fun v hv => List.all_eq_true.1 hc v hv⟩
theorem run_storeCells2 {bb off : Nat} {T : TypeId} : ∀ (vs : List Value) (i : Nat) (cs : List Value) (w : World), w.heap[bb]? = some (.cells cs.toArray T (0, 0)) →
   (∀ v ∈ vs, oneB v = true) → off + i + vs.length ≤ cs.length →
   ∃ w', (storeCells ⟨bb, off, none⟩ vs i).run P w = .ok () w' ∧ w'.heap[bb]? = some (.cells (putL cs (off + i) vs).toArray T (0, 0)) ∧ Ext (· = bb) w w'
 | [], i, cs, w, hn, _, _ => ⟨w, rfl, hn, Ext.refl _ _⟩
 | v :: vs, i, cs, w, hn, h1, hl => by
  simp only [List.length_cons] at hl
  have hlt : off + i < cs.length := by omega
  have hcell : w.cell? ⟨bb, off + i, none⟩ = some cs[off + i] := by simp [World.cell?, hn, hlt]
  have hfr : w.frozen? ⟨bb, off + i, none⟩ = false := by simp [World.frozen?, hn]
  have hn' : (w.setCell ⟨bb, off + i, none⟩ v).heap[bb]? = some (.cells (cs.set (off + i) v).toArray T (0, 0)) := by
   simp [World.setCell, Array.getElem?_modify, hn]
  obtain ⟨w', hr, hh, hx⟩ := run_storeCells2 (off := off) vs (i + 1) (cs.set (off + i) v) _ hn' (fun u hu => h1 u (List.mem_cons_of_mem _ hu)) (by simp; omega)
  refine ⟨w', ?_, hh, (Ext.setCell w ⟨bb, off + i, none⟩ v).trans hx⟩
  simp only [storeCells, addr_add, Sem.run_bind, store]
  rw [Go.Dk.run_store (h1 v (List.mem_cons_self ..)) hcell hfr]
  simp only [Sem.run, Result.andThen_ok]
  exact hr
theorem run_store_op {bb off m : Nat} {T : TypeId} {cs vs : List Value} (hX : ρ x = pv bb off) (hc : (ρ y).cells = vs.toArray) (hsz : (P.info? t).map (·.size) = some m) (hm : m = vs.length)
   (hn : w.heap[bb]? = some (.cells cs.toArray T (0, 0))) (h1 : ∀ v ∈ vs, oneB v = true) (hl : off + vs.length ≤ cs.length) :
   ∃ w', (execOp ρ ⟨d, .store t x y, ty, pos, aft, gd⟩).run P w = .ok .skip w' ∧ w'.heap[bb]? = some (.cells (putL cs off vs).toArray T (0, 0)) ∧ Ext (· = bb) w w' := by
 obtain ⟨w', hr, hh, hx⟩ := run_storeCells2 (P := P) (off := off) vs 0 cs w hn h1 (by simpa using hl)
 refine ⟨w', ?_, by simpa using hh, hx⟩
 cases hi : P.info? t with
 | none => simp [hi] at hsz
 | some i =>
  simp only [hi, Option.map_some, Option.some.injEq] at hsz
  have hne : ¬ (vs.toArray.size ≠ i.size) := by rw [hsz, hm]; simp
  simp only [execOp, Instr.storeAt, hX, pv, Instr.sureAddr, storeVar, Sem.run_bind, Sem.run_pure, Result.andThen_ok, Go.Dk.run_sizeOf hi, if_neg hne, hc, hr]
theorem put_rel {R : SV → Value → Prop} : ∀ {c : List SV} {ys : List Value} {l : List SV} {vs : List Value} {off : Nat}, All2 R l vs → All2 R c ys → All2 R (putS l off c) (putL vs off ys)
 | [], ys, l, vs, off, hl, hc => by obtain rfl := hc.nil_inv; exact hl
 | x :: c, ys, l, vs, off, hl, hc => by
  obtain ⟨y, ys', rfl, h1, h2⟩ := hc.cons_inv
  show All2 R (putS (l.set off x) (off + 1) c) (putL (vs.set off y) (off + 1) ys')
  exact put_rel (hl.set off h1) h2
theorem CellsR.length {Z : Zone} {e : SE} {cs : List Value} {k : SK} (h : CellsR Z w e cs) (hk : e.kind = k) : cs.length = k.size := by
 subst hk
 cases e with
 | t x => obtain ⟨t, _, _, rfl⟩ := h; rfl
 | i n => simp only [CellsR] at h; subst h; rfl
 | ii l => obtain ⟨x, rfl, _⟩ := h; rfl
 | s x => simp only [CellsR] at h; subst h; rfl
 | b c => simp only [CellsR] at h; subst h; rfl
theorem one_all {Z : Zone} {l : List SV} {xs : List Value} (h : All2 (OneR G Z w) l xs) : ∀ v ∈ xs, oneB v = true := fun v hv => by
 obtain ⟨i, hi⟩ := List.getElem?_of_mem hv
 obtain ⟨a, _, hr⟩ := h.get' hi
 exact hr.2
theorem putL_take (n : Nat) : ∀ (vs cs : List Value) (off : Nat), (putL cs off vs).take n = putL (cs.take n) off vs
 | [], cs, off => rfl
 | v :: vs, cs, off => by
  simp only [putL]
  rw [putL_take n vs, List.take_set]
theorem putL_map {α : Type} (f : α → Value) (l : List α) (i : Nat) (x : α) : putL (l.map f) i [f x] = (l.set i x).map f := by
 simp [putL, List.map_set]
theorem flatT_set : ∀ (hs : List HT) (i : Nat) (t : HT), putL (flatT hs) (i * 3) [.int .i64 t.k, .int .i64 t.n, t.sl] = flatT (hs.set i t)
 | [], i, t => by simp [flatT_nil, putL]
 | h :: hs, 0, t => by rw [flatT_cons]; simp [putL, flatT_cons]
 | h :: hs, i + 1, t => by
  have := flatT_set hs i t
  rw [flatT_cons, List.set_cons_succ, flatT_cons, ← this]
  rw [show (i + 1) * 3 = i * 3 + 1 + 1 + 1 by omega]
  simp [putL]
theorem ElemsR.set {Z : Zone} {D : SD} {xs cs : List Value} {e : SE} {i : Nat} {k : SD → OR} (hd : ElemsR Z w D xs) (hc : CellsR Z w e cs) (h : D.set i e k = some r) :
   ∃ D', k D' = some r ∧ D'.len = D.len ∧ D'.kind = D.kind ∧ ElemsR Z w D' (putL xs (i * D.kind.size) cs) := by
 unfold SD.set at h
 split at h
 ·obtain ⟨hs, rfl, rfl, hr⟩ := hd
  obtain ⟨t, rfl, ht, rfl⟩ := hc
  refine ⟨_, h, by simp [SD.len], rfl, hs.set i t, by rw [List.map_set], flatT_set hs i t, fun u hu => ?_⟩
  rcases List.mem_or_eq_of_mem_set hu with hu | rfl
  ·exact hr u hu
  ·exact ht
 ·simp only [ElemsR, CellsR] at hd hc; subst hd hc
  exact ⟨_, h, by simp [SD.len], rfl, by simp only [SD.kind, SK.size, Nat.mul_one]; exact putL_map _ _ _ _⟩
 ·obtain ⟨X, rfl, hX⟩ := hc
  exact ⟨_, h, by simp [SD.len], rfl, by simp only [SD.kind, SK.size, Nat.mul_one]; exact All2.set hd i hX⟩
 ·simp only [ElemsR, CellsR] at hd hc; subst hd hc
  exact ⟨_, h, by simp [SD.len], rfl, by simp only [SD.kind, SK.size, Nat.mul_one]; exact putL_map _ _ _ _⟩
 ·simp only [ElemsR, CellsR] at hd hc; subst hd hc
  exact ⟨_, h, by simp [SD.len], rfl, by simp only [SD.kind, SK.size, Nat.mul_one]; exact putL_map (fun c : UInt8 => Value.int .u8 (c.toNat : Int)) _ _ _⟩
 ·cases h
theorem rowZ_pos {e sz n m c : Nat} {a : Option Addr} {xs : List Value} (h : c ≠ 0) : rowZ e sz (.slice a n c) m xs = rowR e sz (.slice a n c) m xs := by
 unfold rowZ
 split
 ·rename_i he; injection he with _ _ h3; exact absurd h3 h
 ·rfl
theorem rowZ_zero {e sz n m : Nat} {a : Option Addr} {xs : List Value} : rowZ e sz (.slice a n 0) m xs = ⟨fun _ => False, fun _ => m = 0 ∧ xs = [] ∧ (.slice a n 0 : Value) = .slice a 0 0⟩ := rfl
theorem InvG.row (hI : InvG w0 M Z0 b G s tv w) {j : Nat} {e : TypeId} {D : SD} {ver : Nat} (hj : s.heap[j]? = some (.arr e D ver false)) :
   ∃ val xs, G[j]? = some (.arr ver val D.kind.size xs) ∧ ElemsR (zn w0 Z0 s G) w D xs ∧ (∃ a c, val = .slice a D.len c) ∧ (rowZ e D.kind.size val D.len xs).own w := by
 obtain ⟨val, xs, hg, h1, h2⟩ := hI.arr (v := 0) hj
 exact ⟨val, xs, hg, h1, h2, hI.st.own _ (mem_resL hj hg (by simp [resO]))⟩
theorem ext_eq {Z Z' : Zone} (h : ∀ k, Z k ↔ Z' k) (hx : Ext Z w w') : Ext Z' w w' := hx.weak fun k _ hk => (h k).1 hk
theorem evStore_sound (hI : InvG w0 M Z0 b G s tv w) {k : List AObj → OR} (hx : RV G (zn w0 Z0 s G) w vx (ρ x)) (hy : RV G (zn w0 Z0 s G) w vy (ρ y)) (h : evStore P t vx vy s.heap k = some r) :
   ∃ h' G' w', k h' = some r ∧ (execOp ρ ⟨d, .store t x y, ty, pos, aft, gd⟩).run P w = .ok .skip w' ∧ InvG w0 M Z0 b G' ⟨s.tmps, h'⟩ tv w' ∧ h'.length = s.heap.length ∧ Up G G' := by
 unfold evStore at h
 split at h
 ·rename_i m hsz
  replace h := bind_some h; obtain ⟨yc, hyc, h⟩ := h
  obtain ⟨ys, hcells, hys⟩ := cs_sound hyc hy
  split at h
  ·rename_i j off
   split at h
   ·rename_i l hj
    replace h := cond_left h; obtain ⟨hm, h⟩ := h
    simp only [Bool.and_eq_true, Nat.beq_eq, Nat.ble_eq] at hm
    obtain ⟨bb, T, vs, hg, ha, _, hmem⟩ := hI.cells hj
    have hown : w.heap[bb]? = some (.cells vs.toArray T (0, 0)) := hI.st.own _ hmem
    obtain ⟨w', hr, hh, hext⟩ := run_store_op (P := P) (t := t) (d := d) (ty := ty) (pos := pos) (aft := aft) (gd := gd) (ptr_val hx.1 hg) hcells hsz (by rw [hm.1, hys.1]) hown (one_all hys) (by rw [← hys.1, ← ha.1]; omega)
    have hup : Up G (G.set j (.cells bb T (putL vs off ys))) := Up.set fun g0 h0 => by rw [hg] at h0; obtain rfl := Option.some.inj h0; rfl
    have hu := hI.updObj (o' := .cells (putS l off yc)) (g' := .cells bb T (putL vs off ys)) (q := blk bb vs T) (q' := blk bb (putL vs off ys) T) hj hg nofun rfl hext rfl hh
     (fun k hk => ⟨.inl hk, by simp only [blk] at hk; subst hk; exact lt_of_get hh⟩) hup
     (fun Z' hk => (put_rel ha hys).mono fun _ _ _ q => q.mono hk hup)
    exact ⟨_, _, w', h, hr, hu.1, by simp, hup⟩
   ·cases h
  ·rename_i j v i
   replace h := sealL_sound hI hys h; obtain ⟨c, h', h, hs, hc⟩ := h
   split at h
   ·rename_i e D ver hj
    replace h := cond_left h; obtain ⟨hm, h⟩ := h
    simp only [Bool.and_eq_true, Nat.beq_eq] at hm
    obtain ⟨rfl, rfl⟩ := hm
    replace h := elemOf_sound hc h; obtain ⟨el, h, hcr, hek, hone⟩ := h
    have hI' := hs.inv
    obtain ⟨val, xs, hg, hel, ⟨a, cc, hval⟩, hrow⟩ := hI'.row hj
    obtain ⟨bb, off, n, c', hv, hi, hX⟩ := op_val hx.1 hg
    replace h := ElemsR.set hel hcr h; obtain ⟨D', h, hlen, hkind, hset⟩ := h
    rw [hv] at hval
    injection hval with e1 e2 e3
    subst e1 e2 e3
    have hclen := hcr.length hek
    have hrow' := hrow
    rw [hv] at hrow'
    have hc0 : c' ≠ 0 := by
     rintro rfl
     rw [rowZ_zero] at hrow'
     have := hrow'.1; omega
    rw [rowZ_pos hc0] at hrow'
    obtain ⟨rfl, _, _⟩ := rowR_cells hrow' rfl
    simp only [rowR] at hrow'
    obtain ⟨hxl, hrow'⟩ := hrow'
    rcases hrow' with ⟨hh, _⟩ | ⟨g, cap, cur, hh, _, hgg, hnc, hcm, hcs, htake⟩
    ·cases hh
    ·injection hh with e1 _ e3
     injection e1 with e1
     injection e1 with e1 _
     subst e1 e3
     have hcl : cur.toList.length = c' * D.kind.size := by rw [Array.length_toList, hcs]
     have hbd : i * D.kind.size + ys.length ≤ D.len * D.kind.size := by
      rw [hclen, ← Nat.succ_mul]; exact Nat.mul_le_mul_right _ hi
     have hbd2 : D.len * D.kind.size ≤ c' * D.kind.size := Nat.mul_le_mul_right _ hnc
     obtain ⟨w', hr, hh, hext⟩ := run_store_op (P := P) (t := t) (d := d) (ty := ty) (pos := pos) (aft := aft) (gd := gd) (bb := bb) (cs := cur.toList) (off := i * D.kind.size) (by rw [hX]; simp) hcells hsz hclen.symm (by simpa using hgg) hone (by rw [hcl]; omega)
     have hup : Up G (G.set j (.arr v val D.kind.size (putL xs (i * D.kind.size) ys))) := Up.set fun g0 h0 => by rw [hg] at h0; obtain rfl := Option.some.inj h0; exact ⟨rfl, .inr ⟨rfl, rfl⟩⟩
     have hu := hI'.updObj (o' := .arr e D' v false) (g' := .arr v val D.kind.size (putL xs (i * D.kind.size) ys)) (q := rowZ e D.kind.size val D.len xs) (q' := rowZ e D.kind.size val D'.len (putL xs (i * D.kind.size) ys)) hj hg nofun rfl
      (by rw [hv, rowZ_pos hc0]; exact ext_eq (fun k => by simp only [rowR, Value.ownBlock]; exact ⟨fun h => by rw [h], fun h => (Option.some.inj h).symm⟩) hext) rfl
      (by
       rw [hv, rowZ_pos hc0, hlen]
       simp only [rowR]
       refine ⟨by rw [putL_length]; exact hxl, .inr ⟨bb, c', _, rfl, Nat.zero_le _, hh, hnc, hcm, by simp [putL_length, hcl], ?_⟩⟩
       simp only [List.toList_toArray]
       rw [← htake, putL_take])
      (by
       rw [hv, rowZ_pos hc0, rowZ_pos hc0]
       intro k hk
       refine ⟨.inl hk, ?_⟩
       simp only [rowR, Value.ownBlock] at hk
       obtain rfl := Option.some.inj hk
       exact lt_of_get hh) hup
      (fun Z' hk => ⟨rfl, hkind.symm ▸ rfl, hset.stable hk, by rw [hlen]; exact ⟨_, _, hv⟩⟩)
     exact ⟨_, _, w', h, hr, hu.1, by rw [List.length_set]; have := hs.inv.len; have := hI.len; simp at *; omega, hup⟩
   ·cases h
  ·cases h
 ·cases h
end
end Go.Ab
end
section
namespace Go.Ab
open Go Go.Dk
section
variable {P : Program} {w0 w w' : World} {M Z0 : Zone} {b : Nat} {G : List GO} {s : AS} {tv : List Value} {r : List V1 × List AObj}
variable {ρ : Operand → Value} {x y : Operand} {d : Option Tmp} {ty t t' : TypeId} {pos : String} {aft : Array Edge} {gd : Option (Nat × Bool)} {vx vy : AV} {X : Value}
theorem newArr (hI : InvG w0 M Z0 b G s tv w) (hb : b < G.length) (hg : Grow w w') {e : TypeId} {D : SD} {xs : List Value} {val : Value} (hE : ElemsR (zn w0 Z0 s G) w D xs) (hval : ∃ a c, val = .slice a D.len c)
   (hq : (rowZ e D.kind.size val D.len xs).own w' ∧ ∀ k, (rowZ e D.kind.size val D.len xs).foot k → w.heap.size ≤ k ∧ k < w'.heap.size) :
   InvG w0 M Z0 (b + 1) (G.set b (.arr 0 val D.kind.size xs)) ⟨s.tmps, s.heap.set b (.arr e D 0 false)⟩ tv w' ∧
   OneR (G.set b (.arr 0 val D.kind.size xs)) (zn w0 Z0 ⟨s.tmps, s.heap.set b (.arr e D 0 false)⟩ (G.set b (.arr 0 val D.kind.size xs))) w' (.own b 0) val ∧ Up G (G.set b (.arr 0 val D.kind.size xs)) := by
 have hup : Up G (G.set b (.arr 0 val D.kind.size xs)) := Up.set fun g0 h0 => by rw [hI.fresh b (Nat.le_refl _) hb] at h0; obtain rfl := Option.some.inj h0; trivial
 refine ⟨(hI.newObj hb hg (o := .arr e D 0 false) (g := .arr 0 val D.kind.size xs) (fun q hq' => ?_) (fun Z' hk => ⟨rfl, rfl, hE.stable hk, hval⟩)).1, ⟨.inr ⟨0, val, D.kind.size, xs, by simp [hb], Nat.le_refl _, fun _ => rfl⟩, ?_⟩, hup⟩
 ·simp only [resO, List.mem_singleton] at hq'
  subst hq'; exact hq
 ·obtain ⟨a, c, rfl⟩ := hval; rfl
theorem row_new {e sz n : Nat} {cs : List Value} (hn : cs.length = n * sz) (hm : n ≤ maxLen) :
   (rowZ e sz (.slice (some ⟨w.heap.size, 0, none⟩) n n) n cs).own (w.alloc (.cells cs.toArray e (0, 0))) ∧
   ∀ k, (rowZ e sz (.slice (some ⟨w.heap.size, 0, none⟩) n n) n cs).foot k → w.heap.size ≤ k ∧ k < (w.alloc (.cells cs.toArray e (0, 0))).heap.size := by
 cases n with
 | zero =>
  rw [rowZ_zero]
  rw [Nat.zero_mul] at hn
  exact ⟨⟨rfl, List.eq_nil_of_length_eq_zero hn, rfl⟩, fun k h => h.elim⟩
 | succ n =>
  rw [rowZ_pos (by omega)]
  refine ⟨⟨hn, .inr ⟨w.heap.size, n + 1, cs.toArray, rfl, Nat.zero_le _, alloc_get _ _, Nat.le_refl _, hm, by simp [hn], ?_⟩⟩, fun k hk => ?_⟩
  ·simp only [List.toList_toArray]; rw [← hn, List.take_length]
  ·simp only [rowR, Value.ownBlock] at hk
   obtain rfl := Option.some.inj hk
   rw [alloc_size]; omega
theorem run_buildSlice {n sz e : Nat} {i : TypeInfo} {z : Value} {ps : List (Nat × Operand)} {vs cs : List Value} (hu : P.underlying t = some (.slice e)) (hi : P.info? e = some i) (hz : i.zero = some z) (hsz0 : i.size = sz)
   (hix : ps.map (·.1) = List.range' 0 ps.length) (hvs : ps.map (fun p => ρ p.2) = vs) (hn : ps.length = n) (hsz : ∀ v ∈ vs, v.cells.size = sz) (hb : n * sz ≤ 16777216) (hcs : flatC vs = cs) :
   (execOp ρ ⟨d, .buildSlice t n ps.toArray, ty, pos, aft, gd⟩).run P w = .ok (.value (.slice (some ⟨w.heap.size, 0, none⟩) n n)) (w.alloc (.cells cs.toArray e (0, 0))) := by
 have hlim : ¬ (n * i.size > 2 ^ 24) := by rw [hsz0]; simpa using hb
 have hps : ps.map (fun p => (p.1, ρ p.2)) = partsFrom 0 vs := by rw [partsFrom_map ρ ps 0 hix, hvs]
 have hvl : vs.length = n := by rw [← hvs, ← hn]; simp
 have hparts : ((ps.toArray.map fun (p : Nat × Operand) => (p.1, ρ p.2)).toList) = partsFrom 0 vs := by simpa using hps
 have key : ∀ zero : Array Value, Instr.fill (fun j => some (j * i.size, i.size)) ((Array.range (n * i.size)).map (zero[· % zero.size]!)) ((ps.toArray.map fun (p : Nat × Operand) => (p.1, ρ p.2)).toList) = some cs.toArray := by
  intro zero
  obtain ⟨B, hB, hl⟩ := fill_parts i.size vs 0 ((Array.range (n * i.size)).map (zero[· % zero.size]!)) (by rw [hsz0]; exact hsz) (by simp [hvl])
  have hBcs : B = cs.toArray := by
   apply Array.toList_inj.1
   rw [hl, Nat.zero_mul, putL_all _ _ (by rw [flatC_length i.size vs (by rw [hsz0]; exact hsz)]; simp [hvl]), hcs]
  rw [hparts, hB, hBcs]
 simp only [execOp, Instr.buildSlice, Sem.run_bind, Go.Dk.run_underlying hu, Result.andThen_ok, Go.Dk.run_sizeOf hi, if_neg hlim]
 by_cases h0 : n * i.size = 0
 ·rw [if_pos h0]
  simp only [Sem.run_bind, Sem.run_pure, Result.andThen_ok, key, newRow, newObj, Sem.run]
  rfl
 ·rw [if_neg h0]
  have hzv : (zeroValue e).run P w = .ok z w := by
   simp only [zeroValue, Sem.run_bind, Go.Dk.run_typeInfo hi, Result.andThen_ok, hz, Sem.run_pure]
  simp only [Sem.run_bind, hzv, Sem.run_pure, Result.andThen_ok, key, newRow, newObj, Sem.run]
  rfl
theorem natIx_out : ∀ (ps : List (Nat × Operand)) (k : Nat), natIx k ps = true → ps.map (·.1) = List.range' k ps.length
 | [], _, _ => rfl
 | p :: ps, k, h => by
  simp only [natIx, Bool.and_eq_true, Nat.beq_eq] at h
  simp only [List.map_cons, List.length_cons, List.range'_succ, natIx_out ps (k + 1) h.2, h.1]
theorem sizes_le {e : TypeId} {k : SK} : k.size ≤ 3 := by cases k <;> decide
theorem evBuildSlice_sound (hI : InvG w0 M Z0 b G s tv w) (hb : b < G.length) {n : Nat} {ps : Array (Nat × Operand)} {ρa : Operand → AV} {k : AV → List AObj → OR} (hρ : ∀ x, RV G (zn w0 Z0 s G) w (ρa x) (ρ x))
   (h : (match kindS P t with
    | some e => cond (natIx 0 ps.toList && (Nat.beq ps.toList.length n && Nat.ble n 4194304))
     ((csL (ps.toList.map fun p => ρa p.2)).bind fun cs => elemsOf e.2 s.heap cs e.2.nil fun d h => k (.v (.one (.own b 0))) (h.set b (.arr e.1 d 0 false))) none
    | none => none) = some r) :
   ∃ v h' G' w' X, k v h' = some r ∧ (execOp ρ ⟨d, .buildSlice t n ps, ty, pos, aft, gd⟩).run P w = .ok (.value X) w' ∧ InvG w0 M Z0 (b + 1) G' ⟨s.tmps, h'⟩ tv w' ∧ RV G' (zn w0 Z0 ⟨s.tmps, h'⟩ G') w' v X ∧ h'.length = s.heap.length ∧ Up G G' := by
 split at h
 ·rename_i e hk
  replace h := cond_left h; obtain ⟨hc, h⟩ := h
  simp only [Bool.and_eq_true, Nat.beq_eq, Nat.ble_eq] at hc
  obtain ⟨hix, hlen, hn⟩ := hc
  replace h := bind_some h; obtain ⟨cs, hcs, h⟩ := h
  obtain ⟨hu, hke⟩ := kindS_out hk
  obtain ⟨_, i, z, hi, hz, hsz, _, _⟩ := kindE_out hke
  obtain ⟨xss, hxs, hxr⟩ := csL_sound (Xs := ps.toList.map fun p => ρ p.2) hcs ⟨by simp, fun j a c ha hc => by
   rw [List.getElem?_map] at ha hc
   obtain ⟨p, hp, rfl⟩ := Option.map_eq_some_iff.1 ha
   rw [hp] at hc
   obtain rfl := Option.some.inj hc
   exact hρ p.2⟩
  replace h := elemsOf_sound hI hxr (ElemsR_nil e.2) (SK.nil_kind e.2) h
  obtain ⟨D, h', h, hs, he, hDl, hDk, hall⟩ := h
  have hcl : cs.length = n := by
   have h1 := hxr.1
   have h2 : (ps.toList.map fun p => ρ p.2).length = xss.length := by have := congrArg List.length hxs; simpa using this
   rw [h1, ← h2]; simp [← hlen]
  have hDn : D.len = n := by rw [hDl, SK.nil_len, Nat.zero_add, hcl]
  have hflat : flatC (ps.toList.map fun p => ρ p.2) = xss.flatten := by
   have : ∀ (Xs : List Value) (xss : List (List Value)), Xs.map Value.cells = xss.map List.toArray → flatC Xs = xss.flatten := by
    intro Xs
    induction Xs with
    | nil => intro xss h; cases xss with | nil => rfl | cons => simp at h
    | cons X Xs ih =>
     intro xss h
     cases xss with
     | nil => simp at h
     | cons x xss =>
      simp only [List.map_cons, List.cons.injEq] at h
      have := ih xss h.2
      simp only [flatC] at this
      simp only [flatC, List.flatMap_cons, List.flatten_cons, h.1, this]
   exact this _ _ hxs
  have hrun := run_buildSlice (P := P) (w := w) (ρ := ρ) (d := d) (ty := ty) (pos := pos) (aft := aft) (gd := gd) (n := n) (ps := ps.toList) hu hi hz hsz (natIx_out _ 0 hix) rfl hlen (fun v hv => by
   have : v.cells ∈ xss.map List.toArray := by rw [← hxs]; exact List.mem_map_of_mem hv
   obtain ⟨x, hx, hxe⟩ := List.mem_map.1 this
   rw [← hxe]; simpa using (hall x hx).1) (by have := @sizes_le e.1 e.2; have := Nat.mul_le_mul hn this; omega) hflat
  have hlen2 := he.length
  simp only [List.nil_append] at he hlen2
  rw [hDk] at hlen2
  have hnew := newArr (e := e.1) hs.inv hb (Grow.alloc w (.cells xss.flatten.toArray e.1 (0, 0))) he ⟨some ⟨w.heap.size, 0, none⟩, n, by rw [hDn]⟩ (by
   rw [hDk, hDn]
   exact row_new (by rw [← hDn]; exact hlen2) (by simp only [maxLen]; omega))
  rw [hDk] at hnew
  have hps : ps.toList.toArray = ps := by simp
  rw [hps] at hrun
  exact ⟨_, _, _, _, _, h, hrun, hnew.1, hnew.2.1.rv, by rw [List.length_set]; have := hs.inv.len; have := hI.len; simp at *; omega, hnew.2.2⟩
 ·cases h
theorem elems_one {Z : Zone} {D : SD} {ys : List Value} (h : ElemsR Z w D ys) : ∀ u ∈ ys, u.oneCell' = true := by
 cases D with
 | ts l =>
  obtain ⟨hs, _, rfl, _⟩ := h
  induction hs generalizing l with
  | nil => intro u hu; simp [flatT_nil] at hu
  | cons t hs ih =>
   intro u hu
   rw [flatT_cons] at hu
   simp only [List.mem_cons] at hu
   rcases hu with rfl | rfl | rfl | hu
   ·rfl
   ·rfl
   ·rfl
   ·rename_i h1 h2; exact ih _ rfl (fun h hh => h2 h (List.mem_cons_of_mem _ hh)) u hu
 | is l => simp only [ElemsR] at h; subst h; intro u hu; obtain ⟨x, _, rfl⟩ := List.mem_map.1 hu; rfl
 | iss l =>
  intro u hu
  obtain ⟨i, hi⟩ := List.getElem?_of_mem hu
  obtain ⟨a, _, c, cap, rfl, _⟩ := All2.get' h hi
  rfl
 | ss l => simp only [ElemsR] at h; subst h; intro u hu; obtain ⟨x, _, rfl⟩ := List.mem_map.1 hu; rfl
 | bs l => simp only [ElemsR] at h; subst h; intro u hu; obtain ⟨x, _, rfl⟩ := List.mem_map.1 hu; rfl
theorem exec_append {v Y v' : Value} (hx : ρ x = v) (hy : ρ y = Y) (hr : (Builtin.append_ #[t, t] ty #[v, Y]).run P w = .ok v' w') :
   (execOp ρ ⟨d, .call ⟨.builtin .append, #[x, y], #[t, t]⟩, ty, pos, aft, gd⟩).run P w = .ok (.value v') w' := by
 unfold execOp
 simp only [resolve, invoke, builtin, Sem.run_bind, Sem.run_pure, Result.andThen_ok, List.map_toArray, List.map_cons, List.map_nil, hx, hy, hr]
theorem run_append_none {e : TypeId} {i : TypeInfo} {a : Option Addr} {n c : Nat} {Y : Value} (hu : P.underlying t = some (.slice e)) (hi : P.info? e = some i) (hY : ∃ a' c', Y = .slice a' 0 c') (hn : n ≤ c) :
   (Builtin.append_ #[t, t] ty #[.slice a n c, Y]).run P w = .ok (.slice a n c) w := by
 obtain ⟨a', c', rfl⟩ := hY
 have hf : (Builtin.firstCells i.size 0 (.slice a' 0 c')).run P w = .ok #[] w := by
  cases a' with
  | none => rfl
  | some a' => simp [Builtin.firstCells, loadCells, loadCellsFrom, Sem.run_pure]
 unfold Builtin.append_
 cases a with
 | none => simp [Sem.run_bind, Go.Dk.run_underlying hu, Go.Dk.run_sizeOf hi, Builtin.lenOf, Sem.run_pure, hn, hf]
 | some a => simp [Sem.run_bind, Go.Dk.run_underlying hu, Go.Dk.run_sizeOf hi, Builtin.lenOf, Sem.run_pure, hn, hf, storeCells]
theorem run_app {e : TypeId × SK} (hk : kindS P t = some e) {v Y : Value} {n : Nat} {xs : List Value} (hown : (rowZ e.1 e.2.size v n xs).own w) (hv : ∃ a c, v = .slice a n c) {Z : Zone} {D : SD} (hD : D.kind = e.2) (hY : RdS Z w D Y) (hroom : n + D.len ≤ 1099511627776) :
   ∃ v' w' ys, ElemsR Z w D ys ∧ (Builtin.append_ #[t, t] ty #[v, Y]).run P w = .ok v' w' ∧ (rowZ e.1 e.2.size v' (n + D.len) (xs ++ ys)).own w' ∧ (∃ a c, v' = .slice a (n + D.len) c) ∧ Ext (rowZ e.1 e.2.size v n xs).foot w w' ∧
    ∀ k, (rowZ e.1 e.2.size v' (n + D.len) (xs ++ ys)).foot k → ((rowZ e.1 e.2.size v n xs).foot k ∨ w.heap.size ≤ k) ∧ k < w'.heap.size := by
 obtain ⟨hu, hke⟩ := kindS_out hk
 obtain ⟨_, i, z, hi, hz, hsz, hzs, hby⟩ := kindE_out hke
 have hpos := SK.size_pos e.2
 obtain ⟨a, c, hv⟩ := hv
 have hrow : n ≤ c ∧ (c = 0 → n = 0 ∧ xs = []) ∧ (c ≠ 0 → w.ownsRow 0 e.1 e.2.size v n xs ∧ ∀ k, (rowZ e.1 e.2.size v n xs).foot k ↔ v.ownBlock = some k) := by
  subst hv
  by_cases hc : c = 0
  ·subst hc
   rw [rowZ_zero] at hown
   exact ⟨by rw [hown.1]; exact Nat.zero_le _, fun _ => ⟨hown.1, hown.2.1⟩, fun h => absurd rfl h⟩
  ·rw [rowZ_pos hc] at hown
   have h1 : w.ownsRow 0 e.1 e.2.size (.slice a n c) n xs := hown
   refine ⟨?_, fun h => absurd h hc, fun _ => ⟨h1, fun k => by rw [rowZ_pos hc]; rfl⟩⟩
   rcases h1.2 with ⟨h2, h3⟩ | ⟨g, cap, cur, h2, _, _, hn, _⟩
   ·rw [h3]; exact Nat.zero_le _
   ·injection h2 with _ _ h5; omega
 obtain ⟨hnc, hzero, hpos'⟩ := hrow
 by_cases h0 : D.len = 0
 ·have hY' : ∃ a' c', Y = .slice a' 0 c' := by obtain ⟨a', c', ys, hY, _⟩ := hY; exact ⟨a', c', by rw [hY, h0]⟩
  obtain ⟨a', c', ys, hYe, _, he, _⟩ := hY
  have hys : ys = [] := List.eq_nil_of_length_eq_zero (by rw [he.length, h0, Nat.zero_mul])
  subst hys
  refine ⟨v, w, [], he, ?_, by rw [h0, Nat.add_zero, List.append_nil]; exact hown, ⟨a, c, by rw [h0, Nat.add_zero]; exact hv⟩, Ext.refl _ _, fun k hk => ?_⟩
  ·rw [hv]; exact run_append_none hu hi hY' hnc
  ·rw [h0, Nat.add_zero, List.append_nil] at hk
   refine ⟨.inl hk, ?_⟩
   by_cases hc : c = 0
   ·subst hc; subst hv; rw [rowZ_zero] at hk; exact hk.elim
   ·obtain ⟨h1, h2⟩ := hpos' hc
    exact (h1.lt k ((h2 k).1 hk)).2
 ·obtain ⟨bb, off, c', ys, rfl, he, hc⟩ := hY.ne (by omega)
  have hl : ys.length = D.len * e.2.size := by rw [he.length, hD]
  have hnews : ∀ j u, ys[j]? = some u → w.cell? (Addr.add ⟨bb, off, none⟩ j) = some u := fun j u hj => by rw [addr_add]; exact hc j u hj
  have hone := elems_one he
  have hbytes : (n + D.len) * i.bytes ≤ 140737488355328 := by
   have : (n + D.len) * i.bytes ≤ 1099511627776 * 64 := Nat.mul_le_mul hroom hby
   omega
  have hap : P.underlying t = some (.slice e.1) ∧ ∃ i' z', P.info? e.1 = some i' ∧ i'.zero = some z' ∧ i'.size = e.2.size ∧ i'.bytes = i.bytes ∧ z'.cells.size = e.2.size ∧ 0 < e.2.size := ⟨hu, i, z, hi, hz, hsz, rfl, hzs, hpos⟩
  have fin : ∀ v' w', (Builtin.append_ #[t, t] ty #[v, .slice (some ⟨bb, off, none⟩) D.len c']).run P w = .ok v' w' → w'.ownsRow 0 e.1 e.2.size v' (n + D.len) (xs ++ ys) → Ext (rowZ e.1 e.2.size v n xs).foot w w' →
     (∀ b, v'.ownBlock = some b → (rowZ e.1 e.2.size v n xs).foot b ∨ w.heap.size ≤ b) →
     ∃ v' w' ys', ElemsR Z w D ys' ∧ (Builtin.append_ #[t, t] ty #[v, .slice (some ⟨bb, off, none⟩) D.len c']).run P w = .ok v' w' ∧ (rowZ e.1 e.2.size v' (n + D.len) (xs ++ ys')).own w' ∧ (∃ a c, v' = .slice a (n + D.len) c) ∧ Ext (rowZ e.1 e.2.size v n xs).foot w w' ∧
      ∀ k, (rowZ e.1 e.2.size v' (n + D.len) (xs ++ ys')).foot k → ((rowZ e.1 e.2.size v n xs).foot k ∨ w.heap.size ≤ k) ∧ k < w'.heap.size := by
   intro v' w' hr ho hx hf
   have ho' := ho
   rcases ho.2 with ⟨_, h3⟩ | ⟨g, cap, cur, h2, _, _, hn, _⟩
   ·omega
   ·refine ⟨v', w', ys, he, hr, ?_, ⟨_, cap, h2⟩, hx, ?_⟩
    ·rw [h2, rowZ_pos (by omega)]; rw [h2] at ho'; exact ho'
    ·rw [h2, rowZ_pos (by omega)]
     intro k hk
     rw [h2] at hf ho'
     exact ⟨hf k hk, (ho'.lt k hk).2⟩
  by_cases hc0 : c = 0
  ·obtain ⟨rfl, rfl⟩ := hzero hc0
   subst hc0
   have hfoot : ∀ k, ¬ (rowZ e.1 e.2.size v 0 []).foot k := by subst hv; rw [rowZ_zero]; exact fun k h => h
   cases a with
   | none =>
    obtain ⟨v', w', hr, ho, hg, hf⟩ := run_append_row (P := P) w t ty hap v 0 [] (by rw [hv]; exact World.ownsRow_nil w 0 e.1 e.2.size) ⟨bb, off, none⟩ D.len c' ys hl hnews (fun u hu => hone u hu) hbytes (by omega)
    refine fin v' w' hr ho ((grownBy_ext hg).weak fun k _ hk => ?_) fun b hb => .inr ?_
    ·rw [hv] at hk; cases hk
    ·rcases hf b hb with h | h
     ·rw [hv] at h; cases h
     ·exact h
   | some ad =>
    obtain ⟨v', w', hr, ho, hg⟩ := run_append_arg_grows (P := P) w t ty e.1 i z e.2.size i.bytes hu hi hz hsz rfl hzs hpos ad 0 0 [] (by simp) (fun j u hj => by simp at hj) ⟨bb, off, none⟩ D.len c' ys hl hnews (by omega) (by simp only [maxLen]; omega) hbytes
    rw [← hv] at hr
    refine fin v' w' hr ⟨ho.1, ho.2.imp id fun ⟨g, cap, cur, h1, h2, h3⟩ => ⟨g, cap, cur, h1, Nat.zero_le _, h3⟩⟩ ⟨hg.os, hg.tape, hg.output, hg.size, fun k hk _ => hg.block k hk nofun⟩ fun b hb => .inr (ho.lt b hb).1
  ·obtain ⟨h1, h2⟩ := hpos' hc0
   obtain ⟨v', w', hr, ho, hg, hf⟩ := run_append_row (P := P) w t ty hap v n xs h1 ⟨bb, off, none⟩ D.len c' ys hl hnews (fun u hu => hone u hu) hbytes (by omega)
   exact fin v' w' hr ho ((grownBy_ext hg).weak fun k _ hk => (h2 k).2 hk) fun b hb => (hf b hb).imp (h2 b).2 id
theorem app_sound {Z : Zone} {D D' : SD} {xs ys : List Value} {k : SD → OR} (h1 : ElemsR Z w D xs) (h2 : ElemsR Z w D' ys) (h : D.app D' k = some r) : ∃ D'', k D'' = some r ∧ ElemsR Z w D'' (xs ++ ys) ∧ D''.len = D.len + D'.len ∧ D''.kind = D.kind := by
 unfold SD.app at h
 split at h
 ·obtain ⟨hs, rfl, rfl, hr⟩ := h1
  obtain ⟨hs', rfl, rfl, hr'⟩ := h2
  exact ⟨_, h, ⟨hs ++ hs', by simp, by rw [flatT_append], fun u hu => (List.mem_append.1 hu).elim (hr u) (hr' u)⟩, by simp [SD.len], rfl⟩
 ·simp only [ElemsR] at h1 h2; subst h1 h2; exact ⟨_, h, by simp [ElemsR], by simp [SD.len], rfl⟩
 ·exact ⟨_, h, All2.append h1 h2, by simp [SD.len], rfl⟩
 ·simp only [ElemsR] at h1 h2; subst h1 h2; exact ⟨_, h, by simp [ElemsR], by simp [SD.len], rfl⟩
 ·simp only [ElemsR] at h1 h2; subst h1 h2; exact ⟨_, h, by simp [ElemsR], by simp [SD.len], rfl⟩
 ·cases h
theorem evAppend_sound (hI : InvG w0 M Z0 b G s tv w) (hb : b < G.length) {k : SV → List AObj → OR} (hx : RV G (zn w0 Z0 s G) w vx (ρ x)) (hy : RV G (zn w0 Z0 s G) w vy (ρ y)) (h : evAppend P t vx vy s.heap b k = some r) :
   ∃ v h' G' w' X, k v h' = some r ∧ (execOp ρ ⟨d, .call ⟨.builtin .append, #[x, y], #[t, t]⟩, ty, pos, aft, gd⟩).run P w = .ok (.value X) w' ∧ InvG w0 M Z0 (b + 1) G' ⟨s.tmps, h'⟩ tv w' ∧ OneR G' (zn w0 Z0 ⟨s.tmps, h'⟩ G') w' v X ∧ h'.length = s.heap.length ∧ Up G G' := by
 unfold evAppend at h
 split at h
 ·cases h
 ·rename_i e hk
  split at h
  ·replace h := readS_sound hI hy.1 h; obtain ⟨D, h, hrd⟩ := h
   replace h := cond_left h; obtain ⟨hek, h⟩ := h
   have hek := SK.beq_eq hek
   split at h
   ·rename_i j v
    split at h
    ·rename_i e' D0 ver hj
     replace h := cond_left h; obtain ⟨hc, h⟩ := h
     simp only [Bool.and_eq_true, Nat.beq_eq] at hc
     obtain ⟨hv, he'⟩ := hc
     obtain ⟨val, xs, hg, hel, hval, hown⟩ := hI.row hj
     have hX := own_val hx.1 hg hv
     have happ : ∀ ys, ElemsR (zn w0 Z0 s G) w D ys → ∃ D'', (cond (roomB D''.len) (k (.own j (ver + 1)) (s.heap.set j (.arr e' D'' (ver + 1) false))) none) = some r ∧ ElemsR (zn w0 Z0 s G) w D'' (xs ++ ys) ∧ D''.len = D0.len + D.len ∧ D''.kind = D0.kind := fun ys hys => app_sound hel hys h
     have hrd' := hrd
     obtain ⟨a', c', ys0, _, _, hel0, _⟩ := hrd
     obtain ⟨D1, h1, _, hl1, hk1⟩ := happ ys0 hel0
     have hkk : D0.kind = e.2 := by
      cases D0 <;> cases D <;> first | exact hek.symm | (simp [SD.app] at h)
     have hroom : D0.len + D.len ≤ 1099511627776 := by
      have := (cond_left h1).1
      simp only [roomB, decide_eq_true_eq] at this
      omega
     obtain ⟨v', w', ys, hys, hr, hown', hval', hext, hfoot⟩ := run_app (P := P) (t := t) (ty := ty) (w := w) (v := val) (n := D0.len) (xs := xs) hk (by rw [he', ← hkk]; exact hown) hval hek.symm hrd' hroom
     obtain ⟨D'', h2, hel'', hl'', hk''⟩ := happ ys hys
     have h2' := (cond_left h2).2
     have hup : Up G (G.set j (.arr (ver + 1) v' D0.kind.size (xs ++ ys))) := Up.set fun g0 h0 => by rw [hg] at h0; obtain rfl := Option.some.inj h0; exact ⟨rfl, .inl (Nat.lt_succ_self _)⟩
     have hu := hI.updObj (o' := .arr e' D'' (ver + 1) false) (g' := .arr (ver + 1) v' D0.kind.size (xs ++ ys)) (q := rowZ e' D0.kind.size val D0.len xs) (q' := rowZ e' D0.kind.size v' D''.len (xs ++ ys)) hj hg nofun rfl
      (by rw [← he', hkk]; exact hext) rfl (by rw [← he', hkk, hl'']; exact hown') (by rw [← he', hkk, hl'']; exact hfoot) hup
      (fun Z' hk => ⟨rfl, hk''.symm ▸ rfl, hel''.stable hk, by rw [hl'']; exact hval'⟩)
     refine ⟨_, _, _, w', v', h2', exec_append hX rfl hr, hu.1.raise (Nat.le_succ _), ⟨.inr ⟨ver + 1, v', D0.kind.size, xs ++ ys, by simp [lt_of_some hg], Nat.le_refl _, fun _ => rfl⟩, ?_⟩, by simp, hup⟩
     obtain ⟨a, c, rfl⟩ := hval'; rfl
    ·cases h
   ·replace h := cond_left h; obtain ⟨hroom, h⟩ := h
    simp only [roomB, decide_eq_true_eq] at hroom
    obtain ⟨a, hX⟩ := hx.1
    obtain ⟨v', w', ys, hys, hr, hown', hval', hext, hfoot⟩ := run_app (P := P) (t := t) (ty := ty) (w := w) (v := .slice a 0 0) (n := 0) (xs := []) hk (by rw [rowZ_zero]; exact ⟨rfl, rfl, rfl⟩) ⟨a, 0, rfl⟩ hek.symm hrd (by omega)
    rw [rowZ_zero] at hext hfoot
    simp only [Nat.zero_add, List.nil_append] at hown' hval' hfoot
    have hnew := newArr (e := e.1) (b := b) hI hb (hext.weak fun _ _ h => h) hys hval' ⟨by rw [← hek]; exact hown', fun k hk => by rw [← hek] at hk; exact ⟨(hfoot k hk).1.resolve_left id, (hfoot k hk).2⟩⟩
    exact ⟨_, _, _, w', v', h, exec_append hX rfl hr, hnew.1, hnew.2.1, by simp, hnew.2.2⟩
   ·cases h
  ·cases h
theorem flatT_replicate (n : Nat) (t : HT) : flatT (List.replicate n t) = (List.replicate n [.int .i64 t.k, .int .i64 t.n, t.sl]).flatten := by
 induction n with
 | zero => rfl
 | succ n ih => rw [List.replicate_succ, flatT_cons, ih, List.replicate_succ, List.flatten_cons]; rfl
theorem flatten_one {α : Type} (n : Nat) (a : α) : (List.replicate n [a]).flatten = List.replicate n a := by
 induction n with
 | zero => rfl
 | succ n ih => rw [List.replicate_succ, List.flatten_cons, ih, List.replicate_succ]; rfl
theorem zeros_sound {Z : Zone} {e : TypeId} {k : SK} {n : Nat} {D : SD} (hz : zeroIs P e k = true) (h : zeros n k = some D) : ∃ zs, zeroB P e = some zs ∧ zs.length = k.size ∧ ElemsR Z w D (List.replicate n zs).flatten ∧ D.len = n ∧ D.kind = k := by
 unfold zeroIs at hz
 split at hz
 ·rename_i h1
  simp only [Bool.and_eq_true, decide_eq_true_eq] at hz
  obtain ⟨rfl, rfl⟩ := hz
  simp only [zeros, Option.some.injEq] at h; subst h
  refine ⟨_, h1, rfl, ⟨List.replicate n (.mk 0 0 none 0 []), by simp [HT.er, HT.erL], ?_, fun u hu => ?_⟩, by simp [SD.len], rfl⟩
  ·rw [flatT_replicate]; rfl
  ·rw [(List.mem_replicate.1 hu).2]; exact Rd_none
 ·rename_i h1
  simp only [decide_eq_true_eq] at hz; subst hz
  simp only [zeros, Option.some.injEq] at h; subst h
  exact ⟨_, h1, rfl, by simp [ElemsR, flatten_one], by simp [SD.len], rfl⟩
 ·rename_i h1
  simp only [decide_eq_true_eq] at hz; subst hz
  simp only [zeros, Option.some.injEq] at h; subst h
  exact ⟨_, h1, rfl, by simp [ElemsR, flatten_one], by simp [SD.len], rfl⟩
 ·rename_i h1
  simp only [decide_eq_true_eq] at hz; subst hz
  simp only [zeros, Option.some.injEq] at h; subst h
  exact ⟨_, h1, rfl, by simp [ElemsR, flatten_one], by simp [SD.len], rfl⟩
 ·cases hz
theorem evMake_sound (hI : InvG w0 M Z0 b G s tv w) (hb : b < G.length) {k : SV → List AObj → OR} (hx : RV G (zn w0 Z0 s G) w vx (ρ x)) (hy : RV G (zn w0 Z0 s G) w vy (ρ y)) (h : evMake P t vx vy s.heap b k = some r) :
   ∃ v h' G' w' X, k v h' = some r ∧ (execOp ρ ⟨d, .makeSlice t x y, ty, pos, aft, gd⟩).run P w = .ok (.value X) w' ∧ InvG w0 M Z0 (b + 1) G' ⟨s.tmps, h'⟩ tv w' ∧ OneR G' (zn w0 Z0 ⟨s.tmps, h'⟩ G') w' v X ∧ h'.length = s.heap.length ∧ Up G G' := by
 unfold evMake at h
 replace h := optInt_some h hx; obtain ⟨n, hX, h⟩ := h
 replace h := optInt_some h hy; obtain ⟨m, hY, h⟩ := h
 replace h := cond_left h; obtain ⟨hc, h⟩ := h
 simp only [Bool.and_eq_true, decide_eq_true_eq] at hc
 obtain ⟨rfl, hn0, hn⟩ := hc
 split at h
 ·rename_i e hk
  replace h := cond_left h; obtain ⟨hz, h⟩ := h
  replace h := bind_some h; obtain ⟨D, hD, h⟩ := h
  obtain ⟨zs, hzb, hzl, hel, hDl, hDk⟩ := zeros_sound (Z := zn w0 Z0 s G) (w := w) hz hD
  obtain ⟨hu, hke⟩ := kindS_out hk
  obtain ⟨_, i, z, hi, hiz, hsz, hzs, hby⟩ := kindE_out hke
  have hzz := hzb
  unfold zeroB at hzz
  simp only [hi, hiz, Option.some.injEq] at hzz
  have hs3 := @sizes_le e.1 e.2
  have hpos := SK.size_pos e.2
  have hr := run_makeSlice (P := P) w t e.1 i z hu hi hiz .i64 .i64 n n (by omega) (by omega) (by
     rw [hsz]
     have := Nat.mul_le_mul (show n.toNat ≤ 4194304 by omega) hs3
     omega) (by
     have : (i.bytes : Int) * n ≤ 64 * 4194304 := Int.mul_le_mul (by omega) (by omega) (by omega) (by omega)
     omega) (by omega)
  have hcs : madeCells z.cells (n.toNat * i.size) = ((List.replicate n.toNat zs).flatten).toArray := by
   apply Array.toList_inj.1
   rw [← made_eq, hzl, hsz, ← hzz]
  have hlen := hel.length
  rw [hDk] at hlen
  have hnew := newArr (e := e.1) (b := b) hI hb (Grow.alloc w (.cells ((List.replicate n.toNat zs).flatten).toArray e.1 (0, 0))) hel ⟨some ⟨w.heap.size, 0, none⟩, n.toNat, by rw [hDl]⟩ (by
   rw [hDk, hDl]
   exact row_new (by rw [hDl] at hlen; exact hlen) (by simp only [maxLen]; omega))
  refine ⟨_, _, _, _, _, h, ?_, hnew.1, hnew.2.1, by simp, hnew.2.2⟩
  rw [hcs] at hr
  simp only [execOp, hX, hY, Sem.run_bind, hr, Result.andThen_ok, Sem.run_pure]
 ·cases h
theorem build_fill {Z : Zone} {pl : List (Nat × Nat)} : ∀ {ps : List (Nat × AV)} {Xs : List Value} {z : List SV} {zs : List Value} {c : List SV}, All2 (OneR G Z w) z zs → All2 (fun (p : Nat × AV) X => RV G Z w p.2 X) ps Xs → buildS pl z ps = some c →
   ∃ cs : List Value, Instr.fill (pl.toArray[·]?) zs.toArray ((ps.map (·.1)).zip Xs) = some cs.toArray ∧ All2 (OneR G Z w) c cs
 | [], Xs, z, zs, c, hz, ha, h => by
  obtain rfl := ha.nil_inv
  simp only [buildS, Option.some.injEq] at h; subst h
  exact ⟨zs, rfl, hz⟩
 | p :: ps, Xs, z, zs, c, hz, ha, h => by
  obtain ⟨X, Xs', rfl, h1, h2⟩ := ha.cons_inv
  simp only [buildS] at h
  cases hpl : pl[p.1]? with
  | none => simp [hpl] at h
  | some o =>
   cases hcs : p.2.cs with
   | none => simp [hpl, hcs] at h
   | some cc =>
    simp only [hpl, hcs, Option.bind_some] at h
    cases hb : (Nat.beq cc.length o.2 && Nat.ble (o.1 + o.2) z.length) with
    | false => simp [hb] at h
    | true =>
     simp only [hb, cond_true] at h
     simp only [Bool.and_eq_true, Nat.beq_eq, Nat.ble_eq] at hb
     obtain ⟨xs, hx, hr⟩ := cs_sound hcs h1
     obtain ⟨cs, hf, hc⟩ := build_fill (put_rel (off := o.1) hz hr) h2 h
     refine ⟨cs, ?_, hc⟩
     have hsz : X.cells.size = o.2 := by rw [hx, List.size_toArray, ← hr.1, hb.1]
     have hpl' : pl.toArray[p.1]? = some (o.1, o.2) := by simpa using hpl
     simp only [List.map_cons, List.zip_cons_cons, Instr.fill, hpl']
     rw [if_neg (by rw [hsz]; simp [← hz.1]; omega)]
     have hfold : (X.cells.zipIdx.foldl (fun cs (p : Value × Nat) => cs.setIfInBounds (o.1 + p.2) p.1) zs.toArray) = (putL zs o.1 xs).toArray := by
      apply Array.toList_inj.1
      have := foldl_put xs 0 o.1 zs.toArray
      simp only [Nat.add_zero] at this
      rw [← this, hx, ← Array.foldl_toList]
      simp
     rw [hfold]; exact hf
theorem evBuild_sound {Z : Zone} {ps : Array (Nat × Operand)} {ρa : Operand → AV} {k : AV → OR} (hρ : ∀ x, RV G Z w (ρa x) (ρ x)) (h : evBuild P t (ps.toList.map fun p => (p.1, ρa p.2)) k = some r) :
   ∃ v X, k v = some r ∧ (execOp ρ ⟨d, .build t ps, ty, pos, aft, gd⟩).run P w = .ok (.value X) w ∧ RV G Z w v X := by
 unfold evBuild at h
 replace h := bind_some h; obtain ⟨pl, hpl, h⟩ := h
 replace h := bind_some h; obtain ⟨z, hz, h⟩ := h
 replace h := bind_some h; obtain ⟨c, hc, h⟩ := h
 obtain ⟨zs, hzb, hzr⟩ := zeroS_out hz
 obtain ⟨cs, hf, hcr⟩ := build_fill (G := G) (Z := Z) (w := w) (Xs := ps.toList.map fun p => ρ p.2) (hzr G Z w) ⟨by simp, fun i a c ha hc => by
  rw [List.getElem?_map] at ha hc
  obtain ⟨p, hp, rfl⟩ := Option.map_eq_some_iff.1 ha
  rw [hp] at hc
  obtain rfl := Option.some.inj hc
  exact hρ p.2⟩ hc
 refine ⟨_, .agg cs.toArray, h, ?_, cs, rfl, hcr⟩
 have hb : P.built t ((ps.map fun p => (p.1, ρ p.2)).toList) = some cs.toArray := by
  unfold zeroB at hzb
  split at hzb
  ·rename_i i hi
   split at hzb
   ·rename_i zz hzz
    obtain rfl := Option.some.inj hzb
    unfold placesT at hpl
    split at hpl
    ·rename_i fs hu
     unfold Program.built
     simp only [hi, hu, hzz, hpl]
     rw [← hf]
     congr 1
     ·have : ∀ l : List (Nat × Operand), (l.map fun p => (p.1, ρ p.2)) = ((l.map fun p => (p.1, ρa p.2)).map (·.1)).zip (l.map fun p => ρ p.2) := by
        intro l
        induction l with
        | nil => rfl
        | cons p l ih => simp only [List.map_cons, List.zip_cons_cons, ih]
      rw [← this]; simp
    ·cases hpl
   ·cases hzb
  ·cases hzb
 simp only [execOp, Sem.run_bind, Go.run_build w t _ _ hb, Result.andThen_ok, Sem.run_pure]
theorem sub_len {D : SD} {lo hi : Nat} (h : lo ≤ hi) (h2 : hi ≤ D.len) : (D.sub lo hi).len = hi - lo := by
 cases D <;> simp [SD.sub, SD.len] at * <;> omega
theorem flatT_take (n : Nat) : ∀ hs : List HT, (flatT hs).take (n * 3) = flatT (hs.take n) := by
 induction n with
 | zero => intro hs; simp [flatT_nil]
 | succ n ih =>
  intro hs
  cases hs with
  | nil => simp [flatT_nil]
  | cons t hs => rw [flatT_cons, List.take_succ_cons, flatT_cons, ← ih]; rw [show (n + 1) * 3 = n * 3 + 1 + 1 + 1 by omega]; rfl
theorem flatT_drop (n : Nat) : ∀ hs : List HT, (flatT hs).drop (n * 3) = flatT (hs.drop n) := by
 induction n with
 | zero => intro hs; simp
 | succ n ih =>
  intro hs
  cases hs with
  | nil => simp [flatT_nil]
  | cons t hs => rw [flatT_cons, List.drop_succ_cons, ← ih]; rw [show (n + 1) * 3 = n * 3 + 1 + 1 + 1 by omega]; rfl
theorem sub_sound {Z : Zone} {D : SD} {xs : List Value} (h : ElemsR Z w D xs) (lo hi : Nat) : ElemsR Z w (D.sub lo hi) ((xs.take (hi * D.kind.size)).drop (lo * D.kind.size)) := by
 cases D with
 | ts l =>
  obtain ⟨hs, rfl, rfl, hr⟩ := h
  refine ⟨(hs.take hi).drop lo, by rw [List.map_drop, List.map_take], ?_, fun t ht => hr t (List.mem_of_mem_take (List.mem_of_mem_drop ht))⟩
  simp only [SD.kind, SK.size]
  rw [flatT_take, flatT_drop]
 | is l => simp only [ElemsR] at h; subst h; simp [ElemsR, SD.sub, SD.kind, SK.size, List.map_take, List.map_drop]
 | iss l => simp only [SD.kind, SK.size, Nat.mul_one]; exact (All2.take h hi).drop lo
 | ss l => simp only [ElemsR] at h; subst h; simp [ElemsR, SD.sub, SD.kind, SK.size, List.map_take, List.map_drop]
 | bs l => simp only [ElemsR] at h; subst h; simp [ElemsR, SD.sub, SD.kind, SK.size, List.map_take, List.map_drop]
theorem kindEq_out {o : Option (TypeId × SK)} {k : SK} (h : evSlice.kindEq o k = true) : ∃ e, o = some (e, k) := by
 cases o with
 | none => cases h
 | some a => have := SK.beq_eq h; exact ⟨a.1, by rw [← this]⟩
theorem optRV {Z : Zone} {lo : Option Operand} {ρa : Operand → AV} {v : AV} (hρ : ∀ x, RV G Z w (ρa x) (ρ x)) (h : lo.map ρa = some v) : ∃ X, lo.map ρ = some X ∧ RV G Z w v X := by
 cases lo with
 | none => cases h
 | some x => obtain rfl := Option.some.inj h; exact ⟨_, rfl, hρ x⟩
theorem bounds_sound {Z : Zone} {lo hi : Option Operand} {ρa : Operand → AV} {n : Nat} {k : Int → Int → OR} (hρ : ∀ x, RV G Z w (ρa x) (ρ x)) (h : evSlice.bounds (lo.map ρa) (hi.map ρa) n k = some r) :
   ∃ l m : Int, k l m = some r ∧ 0 ≤ l ∧ l ≤ m ∧ m ≤ n ∧ (∀ sl cap : Nat, n ≤ cap → ∀ b, (Instr.sliceBounds b n cap (lo.map ρ) (hi.map ρ) none).run P w = .ok (l.toNat, m.toNat, cap) w) := by
 unfold evSlice.bounds at h
 split at h
 ·rename_i h1 h2
  have h1 : lo = none := by cases lo <;> simp_all
  have h2 : hi = none := by cases hi <;> simp_all
  subst h1 h2
  refine ⟨0, n, h, Int.le_refl _, by omega, Int.le_refl _, fun _ cap hc b => ?_⟩
  simp [Instr.sliceBounds, Sem.run_bind, Sem.run_pure]
 ·rename_i h1 h2
  have h2 : hi = none := by cases hi <;> simp_all
  subst h2
  obtain ⟨X, hX, hr⟩ := optRV hρ h1
  replace h := optInt_some h hr; obtain ⟨l, rfl, h⟩ := h
  replace h := cond_left h; obtain ⟨hc, h⟩ := h
  simp only [inB, Bool.and_eq_true, decide_eq_true_eq] at hc
  refine ⟨l, n, h, hc.1, hc.2.1, hc.2.2, fun _ cap hcap b => ?_⟩
  have hb : 0 ≤ l ∧ l ≤ (n : Int) := ⟨hc.1, hc.2.1⟩
  simp [Instr.sliceBounds, hX, Instr.sliceBound, asIntOf, Sem.run_bind, Sem.run_pure, hb]
 ·rename_i h1 h2
  have h1 : lo = none := by cases lo <;> simp_all
  subst h1
  obtain ⟨X, hX, hr⟩ := optRV hρ h2
  replace h := optInt_some h hr; obtain ⟨m, rfl, h⟩ := h
  replace h := cond_left h; obtain ⟨hc, h⟩ := h
  simp only [inB, Bool.and_eq_true, decide_eq_true_eq] at hc
  refine ⟨0, m, h, Int.le_refl _, hc.2.1, hc.2.2, fun _ cap hcap b => ?_⟩
  have hb : 0 ≤ m ∧ m ≤ (cap : Int) := ⟨hc.2.1, by omega⟩
  simp [Instr.sliceBounds, hX, Instr.sliceBound, asIntOf, Sem.run_bind, Sem.run_pure, hb]
 ·rename_i h1 h2
  obtain ⟨X, hX, hr⟩ := optRV hρ h1
  obtain ⟨Y, hY, hr2⟩ := optRV hρ h2
  replace h := optInt_some h hr; obtain ⟨l, rfl, h⟩ := h
  replace h := optInt_some h hr2; obtain ⟨m, rfl, h⟩ := h
  replace h := cond_left h; obtain ⟨hc, h⟩ := h
  simp only [inB, Bool.and_eq_true, decide_eq_true_eq] at hc
  refine ⟨l, m, h, hc.1, hc.2.1, hc.2.2, fun _ cap hcap b => ?_⟩
  have hb : 0 ≤ m ∧ m ≤ (cap : Int) := ⟨by omega, by omega⟩
  have hb2 : 0 ≤ l ∧ l ≤ ((m.toNat : Nat) : Int) := ⟨hc.1, by omega⟩
  simp [Instr.sliceBounds, hX, hY, Instr.sliceBound, asIntOf, Sem.run_bind, Sem.run_pure, hb]
  intro hq; omega
theorem SlR.sub {Z : Zone} {D : SD} {a : Option Addr} {n c : Nat} (h : SlR Z w D (.slice a n c)) {l m : Nat} (h1 : l ≤ m) (h2 : m ≤ n) : SlR Z w (D.sub l m) (.slice (if c = l then a else a.map (·.add (l * D.kind.size))) (m - l) (c - l)) := by
 obtain ⟨a', c', xs, hX, hc, hm, he, hb⟩ := h
 injection hX with e1 e2 e3
 subst e1 e2 e3
 refine ⟨_, _, _, by rw [sub_len h1 h2], by rw [sub_len h1 h2]; omega, by rw [sub_len h1 h2]; omega, sub_sound he l m, ?_⟩
 rcases hb with rfl | ⟨bb, off, rfl, hz, hc'⟩
 ·left; simp
 ·by_cases hcl : c = l
  ·left
   have : m = l := by omega
   subst this
   apply List.drop_eq_nil_of_le
   rw [List.length_take]; exact Nat.min_le_left _ _
  ·right
   refine ⟨bb, off + l * D.kind.size, by rw [if_neg hcl]; simp [addr_add], hz, fun i x hx => ?_⟩
   rw [List.getElem?_drop, List.getElem?_take] at hx
   split at hx
   ·rw [Nat.add_assoc]; exact hc' _ x hx
   ·cases hx
theorem evSlice_sound (hI : InvG w0 M Z0 b G s tv w) {lo hi mx : Option Operand} {ρa : Operand → AV} {k : SV → List AObj → OR} (hρ : ∀ x, RV G (zn w0 Z0 s G) w (ρa x) (ρ x)) (h : evSlice P t (ρa x) (lo.map ρa) (hi.map ρa) (mx.map ρa) s.heap k = some r) :
   ∃ v h' X, k v h' = some r ∧ (execOp ρ ⟨d, .slice t x lo hi mx, ty, pos, aft, gd⟩).run P w = .ok (.value X) w ∧ Sealed w0 M Z0 b G s tv w h' ∧ OneR G (zn w0 Z0 ⟨s.tmps, h'⟩ G) w v X := by
 have hx := hρ x
 unfold evSlice at h
 split at h
 ·rename_i m0 hmx
  obtain ⟨MX, hMX, hrm⟩ := optRV hρ hmx
  replace h := cond_left h; obtain ⟨hks, h⟩ := h
  have hne : kindS P t ≠ none := by intro e; rw [e] at hks; cases hks
  replace h := optInt_some h hrm; obtain ⟨m, rfl, h⟩ := h
  have fin : ∀ {kk : TypeId × SK} {n cap : Nat} {a : Option Addr}, kindS P t = some kk → ρ x = .slice a n cap → ∀ n' : Int, hi.map ρ = some (.int .i64 n') → m = 0 → n' = 0 → (lo = none ∨ lo.map ρ = some (.int .i64 0)) →
     ∃ a', (execOp ρ ⟨d, .slice t x lo hi mx, ty, pos, aft, gd⟩).run P w = .ok (.value (.slice a' 0 0)) w := by
   intro kk n cap a hk hX n' hH hm hn hlo
   subst hm hn
   obtain ⟨hu, hke⟩ := kindS_out hk
   obtain ⟨_, i, z, hi', hz, hsz, _, _⟩ := kindE_out hke
   refine ⟨a, ?_⟩
   rcases hlo with rfl | hlo
   ·simp [execOp, Instr.sliceAt, Instr.slice, Sem.run_bind, Go.Dk.run_underlying hu, hX, hMX, hH, Instr.sliceBounds, Instr.sliceBound, asIntOf, Go.Dk.run_sizeOf hi', Sem.run_pure]
   ·simp [execOp, Instr.sliceAt, Instr.slice, Sem.run_bind, Go.Dk.run_underlying hu, hX, hMX, hH, hlo, Instr.sliceBounds, Instr.sliceBound, asIntOf, Go.Dk.run_sizeOf hi', Sem.run_pure]
  have body : ∀ n' : Int, hi.map ρ = some (.int .i64 n') → m = 0 → n' = 0 → (lo = none ∨ lo.map ρ = some (.int .i64 0)) → (match ρa x with
   | .v (.one (.fr d)) => cond (evSlice.kindEq (kindS P t) d.kind) (k (.emp (kindS P t)) s.heap) none
   | .v (.one (.own j v)) => (match s.heap[j]? with
    | some (.arr _ d ver _) => cond (Nat.beq v ver && evSlice.kindEq (kindS P t) d.kind) (k (.emp (kindS P t)) s.heap) none
    | _ => none)
   | .v (.one (.emp e)) => (k (.emp (kindS P t)) s.heap)
   | _ => none) = some r → kindS P t ≠ none →
    ∃ v h' X, k v h' = some r ∧ (execOp ρ ⟨d, .slice t x lo hi mx, ty, pos, aft, gd⟩).run P w = .ok (.value X) w ∧ Sealed w0 M Z0 b G s tv w h' ∧ OneR G (zn w0 Z0 ⟨s.tmps, h'⟩ G) w v X := by
   intro n' hH hm hn hlo h hne
   split at h
   ·rename_i D hax
    rw [hax] at hx
    replace h := cond_left h; obtain ⟨hk, h⟩ := h
    obtain ⟨e, hk⟩ := kindEq_out hk
    obtain ⟨a, c, hX⟩ := SlR.val hx.1
    obtain ⟨a', hr⟩ := fin hk hX n' hH hm hn hlo
    exact ⟨_, _, _, h, hr, Sealed.refl hI, ⟨a', rfl⟩, rfl⟩
   ·rename_i j v hax
    rw [hax] at hx
    split at h
    ·rename_i D ver fz hj
     replace h := cond_left h; obtain ⟨hk, h⟩ := h
     simp only [Bool.and_eq_true, Nat.beq_eq] at hk
     obtain ⟨e, hk2⟩ := kindEq_out hk.2
     obtain ⟨val, xs, hg, a, c, ys, hval, _⟩ := hI.arr_rd hj
     obtain ⟨a', hr⟩ := fin hk2 ((own_val hx.1 hg hk.1).trans hval) n' hH hm hn hlo
     exact ⟨_, _, _, h, hr, Sealed.refl hI, ⟨a', rfl⟩, rfl⟩
    ·cases h
   ·rename_i e hax
    rw [hax] at hx
    obtain ⟨a, hX⟩ := hx.1
    cases hk : kindS P t with
    | none => exact absurd hk hne
    | some kk =>
     obtain ⟨a', hr⟩ := fin hk hX n' hH hm hn hlo
     exact ⟨_, _, _, h, hr, Sealed.refl hI, ⟨a', rfl⟩, rfl⟩
   ·cases h
  split at h
  ·rename_i H hhi hlo
   have hlo : lo = none := by cases lo <;> simp_all
   obtain ⟨HX, hHX, hrh⟩ := optRV hρ hhi
   replace h := optInt_some h hrh; obtain ⟨n', rfl, h⟩ := h
   replace h := cond_left h; obtain ⟨hc, h⟩ := h
   simp only [Bool.and_eq_true, decide_eq_true_eq] at hc
   exact body n' hHX hc.1 hc.2 (.inl hlo) h hne
  ·rename_i H L hhi hlo
   obtain ⟨HX, hHX, hrh⟩ := optRV hρ hhi
   obtain ⟨LX, hLX, hrl⟩ := optRV hρ hlo
   replace h := optInt_some h hrh; obtain ⟨n', rfl, h⟩ := h
   replace h := optInt_some h hrl; obtain ⟨l', rfl, h⟩ := h
   replace h := cond_left h; obtain ⟨hc, h⟩ := h
   simp only [Bool.and_eq_true, decide_eq_true_eq] at hc
   exact body n' hHX hc.1 hc.2.1 (.inr (by rw [hLX, hc.2.2])) h hne
  ·cases h
 ·rename_i hmx
  have hmx : mx = none := by cases mx <;> simp_all
  subst hmx
  split at h
  ·rename_i a hax
   rw [hax] at hx
   split at h
   ·rename_i hu
    obtain ⟨l, m, h', hl, hlm, hm, hb⟩ := bounds_sound (P := P) hρ h
    refine ⟨_, _, _, h', ?_, Sealed.refl hI, str_one _⟩
    simp only [execOp, Instr.sliceAt, Instr.slice, Sem.run_bind, Go.Dk.run_underlying hu, Result.andThen_ok, str_inv hx, Option.map_none]
    simp [Sem.run_bind, hb 0 a.size (Nat.le_refl _) false, Sem.run_pure]
   ·cases h
  ·rename_i v hv hax
   rw [hax] at hx
   split at h
   ·rename_i e hk
    obtain ⟨hu, hke⟩ := kindS_out hk
    obtain ⟨_, i, z, hi', hz, hsz, _, _⟩ := kindE_out hke
    have hone : OneR G (zn w0 Z0 s G) w v (ρ x) := by
     refine ⟨hx.1, hx.2 ?_⟩
     rintro rfl
     simp [sealS] at h
    replace h := sealS_sound hI hone h; obtain ⟨v', h', h, hs, hv'⟩ := h
    split at h
    ·rename_i D
     replace h := cond_left h; obtain ⟨hek, h⟩ := h
     have hek := SK.beq_eq hek
     obtain ⟨l, m, h2, hl, hlm, hm, hb⟩ := bounds_sound (P := P) hρ h
     have hsl := hv'.1
     obtain ⟨a, c, xs, hX, hc, _⟩ := id hsl
     rw [hX] at hsl
     have hsub := SlR.sub hsl (l := l.toNat) (m := m.toNat) (by omega) (by omega)
     refine ⟨_, _, _, h2, ?_, hs, hsub, rfl⟩
     simp only [execOp, Instr.sliceAt, Instr.slice, Sem.run_bind, Go.Dk.run_underlying hu, Result.andThen_ok, hX, Option.map_none]
     simp [Sem.run_bind, hb 0 c hc true, Sem.run_pure, Go.Dk.run_sizeOf hi', hsz, hek]
    ·cases h
   ·cases h
  ·cases h
end
end Go.Ab
namespace Go.Ab
open Go Go.Dk
theorem hasN_iff {j : Nat} : ∀ {l : List Nat}, hasN j l = true ↔ j ∈ l
 | [] => by simp [hasN]
 | i :: l => by simp [hasN, hasN_iff (l := l)]
theorem nodupB_iff : ∀ {l : List Nat}, nodupB l = true → l.Nodup
 | [], _ => List.nodup_nil
 | i :: l, h => by
  simp only [nodupB, Bool.and_eq_true, Bool.not_eq_true'] at h
  refine List.nodup_cons.2 ⟨fun hm => ?_, nodupB_iff h.2⟩
  rw [hasN_iff.2 hm] at h; exact absurd h.1 (by simp)
theorem okJs_out {js : List Nat} {n : Nat} (h : okJs js n = true) : js.Nodup ∧ ∀ j ∈ js, j < n := by
 simp only [okJs, Bool.and_eq_true, List.all_eq_true, Nat.blt_eq] at h
 exact ⟨nodupB_iff h.1, h.2⟩
theorem idx_some : ∀ {js : List Nat} {j i : Nat}, idx j js = some i → js[i]? = some j
 | [], j, i, h => by simp [idx] at h
 | a :: js, j, i, h => by
  simp only [idx] at h
  cases hb : Nat.beq j a with
  | true => simp only [hb, cond_true, Option.some.injEq] at h; subst h; simp only [Nat.beq_eq] at hb; subst hb; rfl
  | false =>
   simp only [hb, cond_false, Option.map_eq_some_iff] at h
   obtain ⟨i', hi, rfl⟩ := h
   simpa using idx_some hi
theorem idxs_some : ∀ {js l l' : List Nat}, idxs js l = some l' → All2 (fun j i => js[i]? = some j) l l'
 | js, [], l', h => by simp only [idxs, Option.some.injEq] at h; subst h; exact All2.nil
 | js, j :: l, l', h => by
  simp only [idxs] at h
  cases hi : idx j js with
  | none => simp [hi] at h
  | some i =>
   simp only [hi, Option.bind_some, Option.map_eq_some_iff] at h
   obtain ⟨l'', hl, rfl⟩ := h
   exact All2.cons (idx_some hi) (idxs_some hl)
def sel0 (js : List Nat) (h : List AObj) : List AObj := js.map fun j => h.getD j .dead
def selG (js : List Nat) (G : List GO) : List GO := js.map fun j => G.getD j .gone
def kill : List Nat → List AObj → List AObj
 | [], h => h
 | j :: js, h => kill js (h.set j .dead)
def killG : List Nat → List GO → List GO
 | [], G => G
 | j :: js, G => killG js (G.set j .gone)
theorem resO_ren (js : List Nat) (o : AObj) (g : GO) : resO (renO js o) g = resO o g := by cases o <;> cases g <;> rfl
theorem resL_ren (js : List Nat) : ∀ (h : List AObj) (G : List GO), resL (h.map (renO js)) G = resL h G
 | [], _ => rfl
 | o :: h, [] => rfl
 | o :: h, g :: G => by simp only [List.map_cons, resL, resO_ren, resL_ren js h G]
theorem selH_eq (js : List Nat) (h : List AObj) : selH js h = (sel0 js h).map (renO js) := by simp [selH, sel0]
theorem getD_set_ne {α : Type} {l : List α} {i j : Nat} {a d : α} (h : i ≠ j) : (l.set i a).getD j d = l.getD j d := by simp [List.getD, List.getElem?_set_ne h]
theorem sel0_set {js : List Nat} {h : List AObj} {j : Nat} {o : AObj} (hj : j ∉ js) : sel0 js (h.set j o) = sel0 js h := by
 refine List.map_congr_left fun i hi => getD_set_ne fun e => hj (e ▸ hi)
theorem selG_set {js : List Nat} {G : List GO} {j : Nat} {g : GO} (hj : j ∉ js) : selG js (G.set j g) = selG js G := by
 refine List.map_congr_left fun i hi => getD_set_ne fun e => hj (e ▸ hi)
theorem resL_sel : ∀ (js : List Nat) (h : List AObj) (G : List GO), js.Nodup → (∀ j ∈ js, j < h.length ∧ j < G.length) → (resL h G).Perm (resL (sel0 js h) (selG js G) ++ resL (kill js h) (killG js G))
 | [], h, G, _, _ => List.Perm.refl _
 | j :: js, h, G, hn, hl => by
  rw [List.nodup_cons] at hn
  obtain ⟨h1, h2⟩ := hl j (List.mem_cons_self ..)
  have ho : h[j]? = some (h.getD j .dead) := by simp [List.getD, List.getElem?_eq_getElem h1]
  have hg : G[j]? = some (G.getD j .gone) := by simp [List.getD, List.getElem?_eq_getElem h2]
  refine (resL_out h G j ho hg).trans ?_
  have ih := resL_sel js (h.set j .dead) (G.set j .gone) hn.2 (fun i hi => by simpa using hl i (List.mem_cons_of_mem _ hi))
  rw [sel0_set hn.1, selG_set hn.1] at ih
  have := ih.append_left (resO (h.getD j .dead) (G.getD j .gone))
  rw [← List.append_assoc] at this
  exact this
section
variable {P : Program} {w0 w w' : World} {M Z0 : Zone} {b : Nat} {G : List GO} {s : AS} {tv : List Value} {r : List V1 × List AObj} {Z : Zone}
theorem selG_get {js : List Nat} {i j : Nat} {g : GO} (hi : js[i]? = some j) (hg : G[j]? = some g) : (selG js G)[i]? = some g := by
 simp [selG, hi, List.getD, hg]
theorem RS.ren {js : List Nat} {v : SV} {X : Value} (h : RS G Z w v X) : RS (selG js G) Z w (renS js v) X := by
 cases v with
 | own j v =>
  show RS _ _ _ (match idx j js with | some i => SV.own i v | none => .any) X
  split
  ·rename_i i hi
   have hi := idx_some hi
   rcases h with h | ⟨ver, val, sz, xs, hg, hh⟩
   ·exact .inl (selG_get hi h)
   ·exact .inr ⟨ver, val, sz, xs, selG_get hi hg, hh⟩
  ·trivial
 | ptr j o =>
  show RS _ _ _ (match idx j js with | some i => SV.ptr i o | none => .any) X
  split
  ·rename_i i hi
   have hi := idx_some hi
   rcases h with h | ⟨bb, T, vs, hg, hh⟩
   ·exact .inl (selG_get hi h)
   ·exact .inr ⟨bb, T, vs, selG_get hi hg, hh⟩
  ·trivial
 | op j v i o =>
  show RS _ _ _ (match idx j js with | some j => SV.op j v i o | none => .any) X
  split
  ·rename_i i' hi
   have hi := idx_some hi
   rcases h with h | ⟨ver, val, sz, xs, hg, hh⟩
   ·exact .inl (selG_get hi h)
   ·exact .inr ⟨ver, val, sz, xs, selG_get hi hg, hh⟩
  ·trivial
 | fn f l =>
  show RS _ _ _ (match idxs js l with | some l => SV.fn f l | none => .any) X
  split
  ·rename_i l' hl
   have hl := idxs_some hl
   obtain ⟨bs, hX, hh⟩ := h
   refine ⟨bs, hX, by rw [← hl.1, hh.1], fun i j bb hj hb => ?_⟩
   obtain ⟨j0, hj0, hji⟩ := hl.get' hj
   have := hh.2 i j0 bb hj0 hb
   rcases this with h1 | ⟨T, vs, h1⟩
   ·exact .inl (selG_get hji h1)
   ·exact .inr ⟨T, vs, selG_get hji h1⟩
  ·trivial
 | _ => exact h
theorem All2.map_left {α α' β : Type} {R : α → β → Prop} {S : α' → β → Prop} {f : α → α'} {l : List α} {m : List β} (h : All2 R l m) (hf : ∀ a b, R a b → S (f a) b) : All2 S (l.map f) m := by
 refine ⟨by simp [h.1], fun i a b ha hb => ?_⟩
 rw [List.getElem?_map] at ha
 obtain ⟨a', ha', rfl⟩ := Option.map_eq_some_iff.1 ha
 exact hf _ _ (h.2 i a' b ha' hb)
theorem OneR.ren {js : List Nat} {v : SV} {X : Value} (h : OneR G Z w v X) : OneR (selG js G) Z w (renS js v) X := ⟨h.1.ren, h.2⟩
theorem RV1.ren {js : List Nat} {v : V1} {X : Value} (h : RV1 G Z w v X) : RV1 (selG js G) Z w (renV js v) X := by
 cases v with
 | one s => exact ⟨h.1.ren, fun _ => h.2 (by rintro rfl; simp_all [renS])⟩
 | agg l => obtain ⟨xs, hX, hh⟩ := h; exact ⟨xs, hX, hh.map_left fun _ _ q => q.ren⟩
theorem RV.ren {js : List Nat} {v : AV} {X : Value} (h : RV G Z w v X) : RV (selG js G) Z w (renA js v) X := by
 cases v with
 | v v => exact RV1.ren h
 | tup l => obtain ⟨xs, hX, hh⟩ := h; exact ⟨xs, hX, hh.map_left fun _ _ q => q.ren⟩
theorem RO.ren {js : List Nat} {o : AObj} {g : GO} (h : RO G Z w o g) : RO (selG js G) Z w (renO js o) g := by
 cases o with
 | cells l => cases g with
  | cells bb T vs => exact All2.map_left h fun _ _ q => q.ren
  | _ => exact h
 | arr e D ver fz => cases g <;> exact h
 | dead => cases g <;> exact h
theorem sel_RO {js : List Nat} {h : List AObj} (hh : All2 (RO G Z w) h G) (hl : ∀ j ∈ js, j < h.length) : All2 (RO (selG js G) Z w) (selH js h) (selG js G) := by
 refine ⟨by simp [selH, selG], fun i o g ho hg => ?_⟩
 simp only [selH, List.getElem?_map] at ho
 obtain ⟨j, hj, rfl⟩ := Option.map_eq_some_iff.1 ho
 simp only [selG, List.getElem?_map, hj, Option.map_some, Option.some.injEq] at hg
 subst hg
 have hjl := hl j (List.mem_of_getElem? hj)
 have h1 : h[j]? = some (h.getD j .dead) := by simp [List.getD, List.getElem?_eq_getElem hjl]
 obtain ⟨g, hg, hr⟩ := hh.get h1
 have : G.getD j .gone = g := by simp [List.getD, hg]
 rw [this]; exact hr.ren
theorem InvG.sel (hI : InvG w0 M Z0 b G s tv w) {js : List Nat} (hjs : okJs js s.heap.length = true) :
   InvG w0 M Z0 js.length (selG js G) ⟨s.tmps.map (renA js), selH js s.heap⟩ tv w := by
 obtain ⟨hn, hl⟩ := okJs_out hjs
 have hlG : ∀ j ∈ js, j < s.heap.length ∧ j < G.length := fun j hj => ⟨hl j hj, by rw [← hI.len]; exact hl j hj⟩
 have hp := resL_sel js s.heap G hn hlG
 have hs := (hI.st.perm hp).sub (List.sublist_append_left _ _)
 have heq : resL (selH js s.heap) (selG js G) = resL (sel0 js s.heap) (selG js G) := by rw [selH_eq, resL_ren]
 rw [← heq] at hs
 refine ⟨hs.weak (relF_stable _ _ _) fun hh => ⟨hh.1.map_left fun _ _ q => q.ren, sel_RO hh.2 hl⟩, fun j hj hl' => ?_, hI.mz⟩
 simp [selG] at hl'; omega
def UpW (G G' : List GO) : Prop := ∀ (j : Nat),
 (G[j]? = some .gone → G'[j]? = some .gone) ∧
 (∀ b T vs, G[j]? = some (.cells b T vs) → G'[j]? = some .gone ∨ ∃ T' vs', G'[j]? = some (.cells b T' vs')) ∧
 (∀ ver val sz xs, G[j]? = some (.arr ver val sz xs) → G'[j]? = some .gone ∨ ∃ ver' val' xs', G'[j]? = some (.arr ver' val' sz xs'))
theorem Up.weak {G G' : List GO} (h : Up G G') : UpW G G' := fun j => ⟨(h j).1, (h j).2.1, fun ver val sz xs hg => ((h j).2.2 ver val sz xs hg).imp id fun ⟨a, c, d, e, _⟩ => ⟨a, c, d, e⟩⟩
theorem UpW.refl (G : List GO) : UpW G G := (Up.refl G).weak
theorem UpW.trans {G G' G'' : List GO} (h : UpW G G') (k : UpW G' G'') : UpW G G'' := by
 intro j
 refine ⟨fun hh => (k j).1 ((h j).1 hh), fun b T vs hh => ?_, fun ver val sz xs hh => ?_⟩
 ·rcases (h j).2.1 b T vs hh with h1 | ⟨T', vs', h1⟩
  ·exact .inl ((k j).1 h1)
  ·exact (k j).2.1 b T' vs' h1
 ·rcases (h j).2.2 ver val sz xs hh with h1 | ⟨ver', val', xs', h1⟩
  ·exact .inl ((k j).1 h1)
  ·exact (k j).2.2 ver' val' sz xs' h1
def CallsOK (P : Program) (F : Callee) : Prop :=
 ∀ f fn args h out, P.funcs[f]? = some fn → fn.body.isSome = true → F f args h = some out →
  ∀ w0 M Z0 G vals w, InvG w0 M Z0 h.length G ⟨args.map .v, h⟩ vals w →
   Calls P f vals.toArray w fun e w' => ∃ xs G', e = .returned (if h : xs.toArray.size = 1 then xs.toArray[0] else .tuple xs.toArray) ∧ InvG w0 M Z0 out.2.length G' ⟨out.1.map .v, out.2⟩ xs w' ∧ UpW G G'
def footL (L : List Res) : Zone := fun k => ∃ q ∈ L, q.foot k
theorem InvG.pass (hI : InvG w0 M Z0 b G s tv w) {js : List Nat} (hjs : okJs js s.heap.length = true) {vs : List V1} {xs : List Value} (hv : All2 (RV1 G (zn w0 Z0 s G) w) vs xs) :
   InvG w (footL (resL (sel0 js s.heap) (selG js G))) (fun k => zn w0 Z0 s G k ∨ footL (resL (sel0 js s.heap) (selG js G)) k) js.length (selG js G) ⟨(vs.map (renV js)).map .v, selH js s.heap⟩ xs w := by
 obtain ⟨hn, hl⟩ := okJs_out hjs
 have hlG : ∀ j ∈ js, j < s.heap.length ∧ j < G.length := fun j hj => ⟨hl j hj, by rw [← hI.len]; exact hl j hj⟩
 have hp := resL_sel js s.heap G hn hlG
 have hs := (hI.st.perm hp).sub (List.sublist_append_left _ _)
 have heq : resL (selH js s.heap) (selG js G) = resL (sel0 js s.heap) (selG js G) := by rw [selH_eq, resL_ren]
 have hk : ∀ k, zn w0 Z0 s G k → zone w (fun k => zn w0 Z0 s G k ∨ footL (resL (sel0 js s.heap) (selG js G)) k) (resL (selH js s.heap) (selG js G)) k := fun k hk =>
  ⟨.inl (.inl hk), fun q hq => hk.2 q (hp.mem_iff.2 (List.mem_append.2 (.inl (heq ▸ hq))))⟩
 refine ⟨⟨Ext.refl _ _, ?_, ?_, ?_, ?_, relF_stable _ _ _, ?_⟩, ?_, fun k hk => .inr hk, hI.mz.2.sub hI.st.ext fun k ⟨q, hq, hf⟩ => (hs.key q hq k hf).1⟩
 ·rw [heq]; exact hs.own
 ·rw [heq]; exact hs.loc
 ·rw [heq]; exact fun q hq k hf => ⟨.inl ⟨q, hq, hf⟩, (hs.key q hq k hf).2⟩
 ·rw [heq]; exact hs.dis
 ·refine ⟨(hv.map_left fun _ _ q => (RV1.ren q).stable (keeps_le hk)).map_left fun _ _ q => q, ?_⟩
  exact (sel_RO hI.st.per.2 hl).mono fun _ _ _ q => q.stable (keeps_le hk)
 ·intro j hj hl'
  simp [selG] at hl'; omega
theorem frame {L L1 L2 Lc : List Res} {φ φc : Fact} (hI : St w0 M Z0 L φ w) (hm : ∀ k, M k → Z0 k) (hp : L.Perm (L1 ++ L2)) (hc : St w (footL L1) (fun k => zone w0 Z0 L k ∨ footL L1 k) Lc φc w') :
   St w0 M Z0 (Lc ++ L2) (andF φc φ) w' ∧ Keeps (zone w0 Z0 L) (zone w0 Z0 (Lc ++ L2)) w w' := by
 have hP := hI.perm hp
 have hd := List.pairwise_append.1 hP.dis
 have hx2 : ∀ q ∈ L2, ∀ k, q.foot k → ¬ footL L1 k := fun q hq k hk ⟨p, hp', hf⟩ => hd.2.2 p hp' q hq k hf hk
 have key1 : ∀ q ∈ Lc, ∀ k, q.foot k → (M k ∨ w0.heap.size ≤ k) := by
  intro q hq k hk
  rcases (hc.key q hq k hk).1 with ⟨p, hp', hf⟩ | h
  ·exact (hP.key p (List.mem_append.2 (.inl hp')) k hf).1
  ·exact .inr (Nat.le_trans hI.ext.size h)
 have hkz : Keeps (zone w0 Z0 L) (zone w0 Z0 (Lc ++ L2)) w w' := by
  intro k hz hl
  have hn1 : ¬ footL L1 k := fun ⟨p, hp', hf⟩ => hz.2 p (hp.mem_iff.2 (List.mem_append.2 (.inl hp'))) hf
  refine ⟨⟨hz.1, fun q hq hf => ?_⟩, hc.ext.block k hl hn1⟩
  rcases List.mem_append.1 hq with hq | hq
  ·rcases (hc.key q hq k hf).1 with h | h
   ·exact hn1 h
   ·omega
  ·exact hz.2 q (hp.mem_iff.2 (List.mem_append.2 (.inr hq))) hf
 refine ⟨⟨?_, ?_, ?_, ?_, ?_, hc.stab.and hI.stab, ?_, ?_⟩, hkz⟩
 ·refine ⟨hc.ext.os.trans hI.ext.os, hc.ext.tape.trans hI.ext.tape, hc.ext.output.trans hI.ext.output, Nat.le_trans hI.ext.size hc.ext.size, fun k hk hmk => ?_⟩
  rw [hc.ext.block k (Nat.lt_of_lt_of_le hk hI.ext.size) ?_, hI.ext.block k hk hmk]
  rintro ⟨p, hp', hf⟩
  rcases (hP.key p (List.mem_append.2 (.inl hp')) k hf).1 with h | h
  ·exact hmk h
  ·omega
 ·intro q hq
  rcases List.mem_append.1 hq with hq | hq
  ·exact hc.own q hq
  ·have hq' := List.mem_append.2 (Or.inr (a := q ∈ L1) hq)
   exact hP.loc q hq' w w' (fun k hk => hc.ext.block k (hP.key q hq' k hk).2 (hx2 q hq k hk)) (hP.own q hq')
 ·intro q hq
  rcases List.mem_append.1 hq with hq | hq
  ·exact hc.loc q hq
  ·exact hP.loc q (List.mem_append.2 (.inr hq))
 ·intro q hq k hk
  rcases List.mem_append.1 hq with hq | hq
  ·exact ⟨key1 q hq k hk, (hc.key q hq k hk).2⟩
  ·have := hP.key q (List.mem_append.2 (.inr hq)) k hk
   exact ⟨this.1, Nat.lt_of_lt_of_le this.2 hc.ext.size⟩
 ·refine List.pairwise_append.2 ⟨hc.dis, hd.2.1, fun q hq p hp' k hk hk' => ?_⟩
  rcases (hc.key q hq k hk).1 with h | h
  ·exact hx2 p hp' k hk' h
  ·have := (hP.key p (List.mem_append.2 (.inr hp')) k hk').2; omega
 ·refine hc.stab _ _ w' w' (fun k hz _ => ⟨⟨?_, fun q hq hf => ?_⟩, rfl⟩) hc.per
  ·rcases hz.1 with (h | ⟨p, hp', hf⟩) | h
   ·exact h.1
   ·exact (hP.key p (List.mem_append.2 (.inl hp')) k hf).1.imp (hm k) id
   ·exact .inr (Nat.le_trans hI.ext.size h)
  ·rcases List.mem_append.1 hq with hq | hq
   ·exact hz.2 q hq hf
   ·rcases hz.1 with (h | h) | h
    ·exact h.2 q (hp.mem_iff.2 (List.mem_append.2 (.inr hq))) hf
    ·exact hx2 q hq k hf h
    ·have := (hP.key q (List.mem_append.2 (.inr hq)) k hf).2; omega
 ·exact hI.stab _ _ w w' hkz hI.per
end
end Go.Ab
namespace Go.Ab
open Go Go.Dk
section
variable {P : Program} {w0 w w' : World} {M Z0 : Zone} {b : Nat} {G : List GO} {s : AS} {tv : List Value} {r : List V1 × List AObj} {Z : Zone}
theorem sealVs_sound : ∀ {l : List V1} {s : AS} {xs : List Value} {k : List V1 → List AObj → OR}, InvG w0 M Z0 b G s tv w → All2 (RV1 G (zn w0 Z0 s G) w) l xs → sealVs s.heap l k = some r →
   ∃ l' h', k l' h' = some r ∧ Sealed w0 M Z0 b G s tv w h' ∧ All2 (RV1 G (zn w0 Z0 ⟨s.tmps, h'⟩ G) w) l' xs
 | [], s, xs, k, hI, ha, h => by
  obtain rfl := ha.nil_inv
  exact ⟨_, _, h, Sealed.refl hI, All2.nil⟩
 | v :: l, s, xs, k, hI, ha, h => by
  obtain ⟨X, xs', rfl, h1, h2⟩ := ha.cons_inv
  unfold sealVs at h
  split at h
  ·exact absurd ‹_ :: _ = []› (by simp)
  ·rename_i k' l0 e
   simp only [List.cons.injEq] at e
   obtain ⟨rfl, rfl⟩ := e
   obtain ⟨l', h', hk, hs, hl⟩ := sealVs_sound hI h2 h
   exact ⟨_, _, hk, hs, All2.cons ⟨trivial, fun h => absurd rfl h⟩ hl⟩
  ·rename_i x l0 hne e
   simp only [List.cons.injEq] at e
   obtain ⟨rfl, rfl⟩ := e
   have hone : OneR G (zn w0 Z0 s G) w x X := ⟨h1.1, h1.2 fun e => hne e⟩
   replace h := sealS_sound hI hone h; obtain ⟨v', h1', h, hs, hv⟩ := h
   obtain ⟨l', h', hk, hs', hl⟩ := sealVs_sound hs.inv (h2.mono fun _ _ _ q => q.stable (keeps_le hs.le)) h
   exact ⟨_, _, hk, hs.trans hs', All2.cons ⟨hv.1.stable (keeps_le hs'.le), fun _ => hv.2⟩ hl⟩
  ·rename_i c l0 e
   simp only [List.cons.injEq] at e
   obtain ⟨rfl, rfl⟩ := e
   obtain ⟨ys, hX, hc⟩ := h1
   replace h := sealL_sound hI hc h; obtain ⟨c', h1', h, hs, hv⟩ := h
   obtain ⟨l', h', hk, hs', hl⟩ := sealVs_sound hs.inv (h2.mono fun _ _ _ q => q.stable (keeps_le hs.le)) h
   exact ⟨_, _, hk, hs.trans hs', All2.cons ⟨ys, hX, hv.mono fun _ _ _ q => ⟨q.1.stable (keeps_le hs'.le), q.2⟩⟩ hl⟩
def LikeS (v y : SV) : Prop := ∀ (G G' : List GO) (Z : Zone) (w : World) (X : Value), OneR G Z w v X → OneR G' Z w y X
theorem intC_some {a : IntKind} {l : List SV} {k : Int → List SV → OR} (h : intC a l k = some r) : ∃ n l', l = .int a n :: l' ∧ k n l' = some r := by
 unfold intC at h; split at h
 ·replace h := cond_left h; obtain ⟨ha, h⟩ := h; obtain rfl := ikEq_eq ha; exact ⟨_, _, rfl, h⟩
 ·cases h
theorem boolC_some {l : List SV} {k : Bool → List SV → OR} (h : boolC l k = some r) : ∃ n l', l = .bool n :: l' ∧ k n l' = some r := by
 unfold boolC at h; split at h
 ·exact ⟨_, _, rfl, h⟩
 ·cases h
theorem strC_some {l : List SV} {k : ByteArray → List SV → OR} (h : strC l k = some r) : ∃ n l', l = .str n :: l' ∧ k n l' = some r := by
 unfold strC at h; split at h
 ·exact ⟨_, _, rfl, h⟩
 ·cases h
theorem slC_some {e : SK} {l : List SV} {k : SD → List SV → OR} (h : slC e l k = some r) : ∃ d l', l = .fr d :: l' ∧ d.kind = e ∧ k d l' = some r := by
 cases e <;> simp only [slC] at h
 ·unfold tsC at h; split at h
  ·exact ⟨_, _, rfl, rfl, h⟩
  ·cases h
 ·unfold isC at h; split at h
  ·exact ⟨_, _, rfl, rfl, h⟩
  ·cases h
 ·unfold issC at h; split at h
  ·exact ⟨_, _, rfl, rfl, h⟩
  ·cases h
 ·unfold ssC at h; split at h
  ·exact ⟨_, _, rfl, rfl, h⟩
  ·cases h
 ·unfold bsC at h; split at h
  ·exact ⟨_, _, rfl, rfl, h⟩
  ·cases h
theorem anyC_some {l : List SV} {k : List SV → OR} (h : anyC l k = some r) : ∃ v l', l = v :: l' ∧ k l' = some r := by
 unfold anyC at h; split at h
 ·exact ⟨_, _, rfl, h⟩
 ·cases h
theorem likeC_sound {x : SV} {l : List SV} {k : SV → List SV → OR} (h : likeC x l k = some r) : ∃ v y l', l = v :: l' ∧ k y l' = some r ∧ LikeS v y := by
 unfold likeC at h
 split at h
 ·obtain ⟨n, l', rfl, h'⟩ := intC_some h; exact ⟨_, _, _, rfl, h', fun _ _ _ _ _ h => h⟩
 ·obtain ⟨n, l', rfl, h'⟩ := boolC_some h; exact ⟨_, _, _, rfl, h', fun _ _ _ _ _ h => h⟩
 ·obtain ⟨n, l', rfl, h'⟩ := strC_some h; exact ⟨_, _, _, rfl, h', fun _ _ _ _ _ h => h⟩
 ·obtain ⟨n, l', rfl, _, h'⟩ := slC_some h; exact ⟨_, _, _, rfl, h', fun _ _ _ _ _ h => h⟩
 ·obtain ⟨n, l', rfl, _, h'⟩ := slC_some h; exact ⟨_, _, _, rfl, h', fun _ _ _ _ _ h => h⟩
 ·obtain ⟨v, l', rfl, h'⟩ := anyC_some h; exact ⟨_, _, _, rfl, h', fun _ _ _ _ _ h => ⟨trivial, h.2⟩⟩
theorem likeL_sound : ∀ {x l : List SV} {k : List SV → OR}, likeL x l k = some r → ∃ y, k y = some r ∧ All2 LikeS l y
 | [], l, k, h => by
  unfold likeL nilC at h
  split at h
  ·exact ⟨_, h, All2.nil⟩
  ·cases h
 | x :: xs, l, k, h => by
  unfold likeL at h
  obtain ⟨v, y, l', rfl, h1, hv⟩ := likeC_sound h
  obtain ⟨ys, h2, hl⟩ := likeL_sound h1
  exact ⟨_, h2, All2.cons hv hl⟩
theorem like_one {l y : List SV} {vs : List Value} {G' : List GO} (h : All2 LikeS l y) (k : All2 (OneR G Z w) l vs) : All2 (OneR G' Z w) y vs := by
 refine ⟨h.1.symm.trans k.1, fun i a X ha hX => ?_⟩
 obtain ⟨v, hv, hl⟩ := h.get' ha
 exact hl _ _ _ _ _ (k.2 i v X hv hX)
def Back (o o' : AObj) : Prop := o' = .dead ∨ ∃ l y, o = .cells l ∧ o' = .cells y ∧ All2 LikeS l y
theorem backO_sound : ∀ {x o : List AObj} {k : List AObj → List AObj → OR}, backO x o k = some r → ∃ olds os rest, o = olds ++ rest ∧ k os rest = some r ∧ olds.length = x.length ∧ All2 Back olds os
 | [], o, k, h => ⟨[], [], o, rfl, h, rfl, All2.nil⟩
 | x :: xs, o, k, h => by
  unfold backO at h
  split at h
  ·exact absurd ‹_ :: _ = []› (by simp)
  ·rename_i c xs0 e
   simp only [List.cons.injEq] at e
   obtain ⟨rfl, rfl⟩ := e
   unfold objC at h
   split at h
   ·obtain ⟨y, h1, hy⟩ := likeL_sound h
    obtain ⟨olds, os, rest, rfl, h2, hl, hb⟩ := backO_sound h1
    exact ⟨_ :: olds, _, rest, rfl, h2, by simp [hl], All2.cons (.inr ⟨_, _, rfl, rfl, hy⟩) hb⟩
   ·cases h
  ·rename_i o0 xs0 hne e
   simp only [List.cons.injEq] at e
   obtain ⟨rfl, rfl⟩ := e
   unfold dropC at h
   split at h
   ·obtain ⟨olds, os, rest, rfl, h1, hl, hb⟩ := backO_sound h
    exact ⟨_ :: olds, _, rest, rfl, h1, by simp [hl], All2.cons (.inl rfl) hb⟩
   ·cases h
theorem arrC_some {e : TypeId × SK} {o : List AObj} {k : SD → List AObj → OR} (h : arrC e o k = some r) : ∃ d o', o = .arr e.1 d 0 false :: o' ∧ d.kind = e.2 ∧ k d o' = some r := by
 have key : ∀ {α : Type} {f : α → SD} {o : List AObj} {k : SD → List AObj → OR} {e' : TypeId} {x : α} {o' : List AObj}, o = .arr e' (f x) 0 false :: o' → cond (Nat.beq e.1 e') (k (f x) o') none = some r → (f x).kind = e.2 → ∃ d o', o = .arr e.1 d 0 false :: o' ∧ d.kind = e.2 ∧ k d o' = some r := by
  intro α f o k e' x o' ho h hk
  obtain ⟨he, h'⟩ := cond_left h
  simp only [Nat.beq_eq] at he
  subst he
  exact ⟨_, _, ho, hk, h'⟩
 unfold arrC at h
 split at h <;> rename_i he
 ·unfold arrTsC at h; split at h
  ·exact key (f := SD.ts) rfl h (by rw [he]; rfl)
  ·cases h
 ·unfold arrIsC at h; split at h
  ·exact key (f := SD.is) rfl h (by rw [he]; rfl)
  ·cases h
 ·unfold arrIssC at h; split at h
  ·exact key (f := SD.iss) rfl h (by rw [he]; rfl)
  ·cases h
 ·unfold arrSsC at h; split at h
  ·exact key (f := SD.ss) rfl h (by rw [he]; rfl)
  ·cases h
 ·unfold arrBsC at h; split at h
  ·exact key (f := SD.bs) rfl h (by rw [he]; rfl)
  ·cases h
theorem rSl_some {e : SK} {l : List V1} {k : SD → List V1 → OR} (h : rSl e l k = some r) : ∃ d l', l = .one (.fr d) :: l' ∧ k d l' = some r := by
 cases e <;> simp only [rSl] at h
 ·unfold rTs at h; split at h
  ·exact ⟨_, _, rfl, h⟩
  ·cases h
 ·unfold rIs at h; split at h
  ·exact ⟨_, _, rfl, h⟩
  ·cases h
 ·unfold rIss at h; split at h
  ·exact ⟨_, _, rfl, h⟩
  ·cases h
 ·unfold rSs at h; split at h
  ·exact ⟨_, _, rfl, h⟩
  ·cases h
 ·unfold rBs at h; split at h
  ·exact ⟨_, _, rfl, h⟩
  ·cases h
theorem RO_arr_inv {e : TypeId} {d : SD} {g : GO} (h : RO G Z w (.arr e d 0 false) g) : ∃ val xs, g = .arr 0 val d.kind.size xs := by
 cases g with
 | arr ver val sz xs => obtain ⟨rfl, rfl, _⟩ := h; exact ⟨_, _, rfl⟩
 | _ => exact h.elim
theorem RO_arr_any {e : TypeId} {d : SD} {v : Nat} {z : Bool} {g : GO} {G' : List GO} (h : RO G Z w (.arr e d v z) g) : RO G' Z w (.arr e d v z) g := by cases g <;> exact h
theorem own_new {c b' : Nat} {G' : List GO} {g : GO} {e : TypeId} {d : SD} {X : Value} (hx : RS G Z w (.own c 0) X) (hg : RO G Z w (.arr e d 0 false) g) (h1 : G[c]? = some g) (h2 : G'[b']? = some g) : RS G' Z w (.own b' 0) X := by
 obtain ⟨val, xs, rfl⟩ := RO_arr_inv hg
 have := own_val hx h1 rfl
 exact .inr ⟨0, val, _, xs, h2, Nat.le_refl _, fun _ => this⟩
theorem valT_sound {own : Bool} {c b' : Nat} {t : TypeId} {l : List V1} {o : List AObj} {k : V1 → List AObj → List V1 → List AObj → OR} (h : valT P own c b' t l o k = some r) :
   ∃ v n l' o' x0 o0, k v n l' o' = some r ∧ l = x0 :: l' ∧ o = o0 ++ o' ∧ n.length = o0.length ∧ ∀ {Gc G'' : List GO} {Z : Zone} {w : World} {X : Value} {gs : List GO}, RV1 Gc Z w x0 X → All2 (RO Gc Z w) o0 gs →
    (∀ (i : Nat) g, gs[i]? = some g → Gc[c + i]? = some g ∧ G''[b' + i]? = some g) → RV1 G'' Z w v X ∧ All2 (RO G'' Z w) n gs ∧ resL n gs = resL o0 gs := by
 unfold valT at h
 split at h
 ·unfold rInt at h; split at h
  ·replace h := cond_left h; obtain ⟨ha, h⟩ := h; obtain rfl := ikEq_eq ha
   exact ⟨_, _, _, _, _, [], h, rfl, rfl, rfl, fun hx ho _ => by obtain rfl := ho.nil_inv; exact ⟨hx, All2.nil, rfl⟩⟩
  ·cases h
 ·unfold rBool at h; split at h
  ·exact ⟨_, _, _, _, _, [], h, rfl, rfl, rfl, fun hx ho _ => by obtain rfl := ho.nil_inv; exact ⟨hx, All2.nil, rfl⟩⟩
  ·cases h
 ·unfold rStr at h; split at h
  ·exact ⟨_, _, _, _, _, [], h, rfl, rfl, rfl, fun hx ho _ => by obtain rfl := ho.nil_inv; exact ⟨hx, All2.nil, rfl⟩⟩
  ·cases h
 ·split at h
  ·rename_i e _
   rcases cond_some h with ⟨_, h⟩ | ⟨_, h⟩
   ·unfold rOwn at h; split at h
    ·replace h := cond_left h; obtain ⟨hi, h⟩ := h
     simp only [Nat.beq_eq] at hi
     obtain ⟨d, o', rfl, hk, h1⟩ := arrC_some h
     refine ⟨_, _, _, _, _, [_], h1, rfl, rfl, rfl, fun hx ho hg => ?_⟩
     obtain ⟨g, gs', rfl, h1, h2⟩ := ho.cons_inv
     obtain rfl := h2.nil_inv
     obtain ⟨e1, e2⟩ := hg 0 g rfl
     refine ⟨⟨own_new (by rw [← hi]; exact hx.1) h1 e1 e2, fun _ => hx.2 nofun⟩, All2.cons (RO_arr_any h1) All2.nil, rfl⟩
    ·cases h
   ·obtain ⟨d, l', rfl, h1⟩ := rSl_some h
    exact ⟨_, _, _, _, _, [], h1, rfl, rfl, rfl, fun hx ho _ => by obtain rfl := ho.nil_inv; exact ⟨hx, All2.nil, rfl⟩⟩
  ·cases h
 ·split at h
  ·rcases cond_some h with ⟨_, h⟩ | ⟨_, h⟩
   ·unfold rOwnT at h; split at h
    ·replace h := cond_left h; obtain ⟨hi, h⟩ := h
     simp only [Nat.beq_eq] at hi
     unfold arrTsC at h; split at h
     ·replace h := cond_left h; obtain ⟨he, hk2⟩ := h
      simp only [Nat.beq_eq] at he
      subst he
      refine ⟨_, _, _, _, _, [_], hk2, rfl, rfl, rfl, fun hx ho hg => ?_⟩
      obtain ⟨g, gs', rfl, h1, h2⟩ := ho.cons_inv
      obtain rfl := h2.nil_inv
      obtain ⟨e1, e2⟩ := hg 0 g rfl
      obtain ⟨xs, hX, hc⟩ := hx
      obtain ⟨x1, m1, rfl, c1, hc⟩ := hc.cons_inv
      obtain ⟨x2, m2, rfl, c2, hc⟩ := hc.cons_inv
      obtain ⟨x3, m3, rfl, c3, hc⟩ := hc.cons_inv
      obtain rfl := hc.nil_inv
      exact ⟨⟨_, hX, All2.cons c1 (All2.cons c2 (All2.cons ⟨own_new (by rw [← hi]; exact c3.1) h1 e1 e2, c3.2⟩ All2.nil))⟩, All2.cons (RO_arr_any h1) All2.nil, rfl⟩
     ·cases h
    ·cases h
   ·unfold rTerm at h; split at h
    ·refine ⟨_, _, _, _, _, [], h, rfl, rfl, rfl, fun hx ho _ => ?_⟩
     obtain rfl := ho.nil_inv
     obtain ⟨xs, hX, hc⟩ := hx
     obtain ⟨x1, m1, rfl, c1, hc⟩ := hc.cons_inv
     obtain ⟨x2, m2, rfl, c2, hc⟩ := hc.cons_inv
     obtain ⟨x3, m3, rfl, c3, hc⟩ := hc.cons_inv
     obtain rfl := hc.nil_inv
     exact ⟨⟨_, hX, All2.cons ⟨c1.1, c1.2⟩ (All2.cons ⟨c2.1, c2.2⟩ (All2.cons ⟨c3.1, c3.2⟩ All2.nil))⟩, All2.nil, rfl⟩
    ·cases h
  ·cases h
 ·unfold rPtr at h; split at h
  ·replace h := cond_left h; obtain ⟨hi, h⟩ := h
   simp only [Nat.beq_eq] at hi
   unfold objC at h; split at h
   ·split at h
    ·obtain ⟨y, h1, hy⟩ := likeL_sound h
     refine ⟨_, _, _, _, _, [_], h1, rfl, rfl, rfl, fun hx ho hg => ?_⟩
     obtain ⟨g, gs', rfl, h1, h2⟩ := ho.cons_inv
     obtain rfl := h2.nil_inv
     obtain ⟨e1, e2⟩ := hg 0 g rfl
     cases g with
     | cells bb T vs =>
      have hp := ptr_val (by rw [← hi]; exact hx.1) e1
      exact ⟨⟨.inr ⟨bb, T, vs, e2, hp⟩, fun _ => hx.2 nofun⟩, All2.cons (like_one hy h1) All2.nil, rfl⟩
     | _ => exact h1.elim
    ·cases h
   ·cases h
  ·cases h
 ·cases h
theorem valsT_sound {own : Bool} : ∀ {tys : List TypeId} {c b' : Nat} {l : List V1} {o : List AObj} {k : List V1 → List AObj → OR}, valsT P own tys c b' l o k = some r →
   ∃ vs ns, k vs ns = some r ∧ ns.length = o.length ∧ ∀ {Gc G'' : List GO} {Z : Zone} {w : World} {xs : List Value} {gs : List GO}, All2 (RV1 Gc Z w) l xs → All2 (RO Gc Z w) o gs →
    (∀ (i : Nat) g, gs[i]? = some g → Gc[c + i]? = some g ∧ G''[b' + i]? = some g) → All2 (RV1 G'' Z w) vs xs ∧ All2 (RO G'' Z w) ns gs ∧ resL ns gs = resL o gs
 | [], c, b', l, o, k, h => by
  unfold valsT nilV at h
  split at h
  ·unfold nilO at h
   split at h
   ·exact ⟨_, _, h, rfl, fun hx ho _ => ⟨by obtain rfl := hx.nil_inv; exact All2.nil, by obtain rfl := ho.nil_inv; exact All2.nil, rfl⟩⟩
   ·cases h
  ·cases h
 | t :: tys, c, b', l, o, k, h => by
  unfold valsT at h
  obtain ⟨v, n, l', o', x0, o0, h1, rfl, rfl, hn, hv⟩ := valT_sound h
  obtain ⟨vs, ns, h2, hns, hvs⟩ := valsT_sound h1
  refine ⟨_, _, h2, by simp [hn, hns], fun hx ho hg => ?_⟩
  obtain ⟨X, xs', rfl, hx1, hx2⟩ := hx.cons_inv
  obtain ⟨g1, g2, rfl, ho1, ho2⟩ := ho.append_inv
  obtain ⟨a1, a2, a3⟩ := hv hx1 ho1 fun i g hi => hg i g (by rw [List.getElem?_append_left (lt_of_some hi)]; exact hi)
  obtain ⟨b1, b2, b3⟩ := hvs hx2 ho2 fun i g hi => by
   have := hg (g1.length + i) g (by rw [List.getElem?_append_right (by omega)]; simpa using hi)
   rw [← ho1.1] at this
   rw [Nat.add_assoc, Nat.add_assoc, hn]; exact this
  refine ⟨All2.cons a1 b1, All2.append a2 b2, ?_⟩
  rw [resL_append a2.1, resL_append ho1.1, a3, b3]
end
end Go.Ab
end
