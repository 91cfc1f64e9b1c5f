/- The abstract evaluator: values, objects, and what one operation does. Definitions only. -/
import Derived.Test.YteapmdjkcpjbmaaGreatAbsA
namespace Go.Abs

/-- An abstract value: a block of the evaluated code's own is a name. -/
inductive V where
  | any
  | int (k : IntKind) (n : Int)
  | bool (b : Bool)
  | str (l : List UInt8)
  | ptr (n off : Nat)
  | vptr (cells : List V) (off : Nat)
  | nilptr
  | slice (n off len sz : Nat)
  | vec (cells : List V) (len : Nat)
  | nilslice
  | map (n : Nat)
  | nilmap
  | func (f : FuncId) (first captured : List V)
  | yield (n : Nat)
  | nilfunc
  | iface (t : TypeId) (v : V)
  | nilIface
  | agg (cells : List V)
  | tuple (vs : List V)
  deriving Inhabited

/-- What a name stands for. -/
inductive AObj where
  | cells (cs : List V) (t : TypeId)
  | strIter (s : List UInt8) (pos : Nat)
  | map (es : List (V × V × Nat)) (clock : Nat)
  | mapIter (map : Option Nat) (since : Nat) (seen : List Nat) (stepped : Nat)
  | loop (state : LoopState) (pending : Option Code) (T : Tr V) (nt : Nat) (params : List Nat) (assign body : Code) (defers : Nat)
  | deferred (taken : Bool)

abbrev Heap := Tr AObj

def isScalar : Value → Bool
  | .int _ _ | .bool _ | .string _ | .pointer none | .slice none 0 0 | .map none | .nilFunc | .nilIface => true
  | _ => false
def ofScalar : Value → V
  | .int k n => .int k n
  | .bool b => .bool b
  | .string s => .str s.data.toList
  | .pointer none => .nilptr
  | .slice none 0 0 => .nilslice
  | .map none => .nilmap
  | .nilFunc => .nilfunc
  | .nilIface => .nilIface
  | _ => .any
def ofValue : Value → V
  | .agg cs => bif cs.toList.all isScalar then .agg (cs.toList.map ofScalar) else .any
  | v => ofScalar v
/-- The cells of a value whose cells are known. -/
def V.cells? : V → Option (List V)
  | .agg cs => some cs
  | .any | .tuple _ => none
  | v => some [v]

inductive AD where
  | mark (n : Nat)
  | fn (f : FuncId) (args captured : List V)

structure St where
  T : Tr V
  nt : Nat
  D : List AD
  H : Heap
  nx : Nat

def ev (T : Tr V) : Operand → V
  | .tmp t => match T.get t with | some v => v | none => .any
  | .const v => ofValue v
  | .global _ => .any
  | .func f => .func f [] []

/-! ### Numbers, texts -/
def ltI : Int → Int → Bool
  | .ofNat m, .ofNat n => Nat.blt m n
  | .negSucc _, .ofNat _ => true
  | .ofNat _, .negSucc _ => false
  | .negSucc m, .negSucc n => Nat.blt n m
def eqI : Int → Int → Bool
  | .ofNat m, .ofNat n => Nat.beq m n
  | .negSucc m, .negSucc n => Nat.beq m n
  | _, _ => false
def eqB : Bool → Bool → Bool
  | true, b => b
  | false, b => !b
def eqU (a b : UInt8) : Bool := Nat.beq a.toNat b.toNat
def eqL : List UInt8 → List UInt8 → Bool
  | [], [] => true
  | a :: x, b :: y => eqU a b && eqL x y
  | _, _ => false
def ltL : List UInt8 → List UInt8 → Bool
  | _, [] => false
  | [], _ :: _ => true
  | a :: x, b :: y => Nat.blt a.toNat b.toNat || (eqU a b && ltL x y)
def kEq (a b : IntKind) : Bool := decide (a = b)
def maxI : Nat := 9223372036854775807

section
variable (P : Program)

/-- Is a type an aggregate, and of how many cells is it? -/
def tySz (t : TypeId) : Option (Bool × Nat) :=
  match P.info? t, P.underlying t with
  | some i, some d => some (match d with | .struct _ | .array _ _ => true | _ => false, i.size)
  | _, _ => none
def sz (t : TypeId) : Option Nat := (P.info? t).map (·.size)
def zeroV (t : TypeId) : Option V := (P.info? t).bind fun i => i.zero.map ofValue

/-- Equality of two values of a scalar type. -/
def eqScT (t : TypeId) (x y : V) : Option Bool :=
  match P.underlying t, x, y with
  | some .bool, .bool a, .bool b => some (eqB a b)
  | some (.int _), .int k a, .int k' b => bif kEq k k' then some (eqI a b) else none
  | some .string, .str a, .str b => some (eqL a b)
  | _, _, _ => none
/-- Equality of two structs of scalars, field by field. -/
def eqFieldsT : List Field → Nat → List V → List V → Option Bool
  | [], _, [], [] => some true
  | f :: fs, k, a :: x, b :: y => bif Nat.beq f.offset k && f.name != "_" then (match eqScT P f.type a b with
    | some true => eqFieldsT fs (k + 1) x y
    | some false => some false
    | none => none) else none
  | _, _, _, _ => none
/-- Equality of two arrays of scalars. -/
def eqArrT (e : TypeId) : Nat → List V → List V → Option Bool
  | 0, [], [] => some true
  | n + 1, a :: x, b :: y => match eqScT P e a b with
    | some true => eqArrT e n x y
    | some false => some false
    | none => none
  | _, _, _ => none
/-- Equality of two values of a type. -/
def eqT (t : TypeId) (x y : V) : Option Bool :=
  match P.underlying t, x, y with
  | some (.pointer _), .nilptr, .nilptr => some true
  | some (.pointer _), .nilptr, .ptr _ _ | some (.pointer _), .ptr _ _, .nilptr | some (.pointer _), .nilptr, .vptr _ _ | some (.pointer _), .vptr _ _, .nilptr => some false
  | some (.slice _), .nilslice, .nilslice => some true
  | some (.slice _), .nilslice, .slice _ _ _ _ | some (.slice _), .slice _ _ _ _, .nilslice => some false
  | some (.map _ _), .nilmap, .nilmap => some true
  | some (.map _ _), .nilmap, .map _ | some (.map _ _), .map _, .nilmap => some false
  | some (.func _ _ _), .nilfunc, .nilfunc => some true
  | some (.func _ _ _), .nilfunc, .func _ _ _ | some (.func _ _ _), .func _ _ _, .nilfunc => some false
  | some (.interface _), .nilIface, .iface _ _ | some (.interface _), .iface _ _, .nilIface => some false
  | some (.struct fs), .agg x, .agg y => bif P.stoodInHeld t then none else eqFieldsT P fs.toList 0 x y
  | some (.array n e), .agg x, .agg y => match sz P e with
    | some 1 => eqArrT P e n x y
    | _ => none
  | _, x, y => eqScT P t x y
/-- May two values of a type be compared by '==' and '!=' (the look at two nil values of an interface type)? -/
def guardT (t : TypeId) : V → V → Bool
  | .nilIface, .nilIface => false
  | .agg _, .agg _ => !P.eqGuardType P.depth t
  | .any, _ | _, .any => false
  | _, _ => true

def wr (k : IntKind) (n : Int) : V := .int k (k.wrap n)
def binI (op : BinOp) (k : IntKind) (a b : Int) : Option V :=
  match op with
  | .add => some (wr k (a + b))
  | .sub => some (wr k (a - b))
  | .mul => some (wr k (a * b))
  | .quo => bif eqI b 0 then none else some (wr k (a.tdiv b))
  | .rem => bif eqI b 0 then none else some (.int k (a.tmod b))
  | .and => some (wr k ((BitVec.ofInt k.bits a &&& BitVec.ofInt k.bits b).toNat : Int))
  | .or => some (wr k ((BitVec.ofInt k.bits a ||| BitVec.ofInt k.bits b).toNat : Int))
  | .xor => some (wr k ((BitVec.ofInt k.bits a ^^^ BitVec.ofInt k.bits b).toNat : Int))
  | .andNot => some (wr k ((BitVec.ofInt k.bits a &&& ~~~ BitVec.ofInt k.bits b).toNat : Int))
  | .eql => some (.bool (eqI a b))
  | .neq => some (.bool (!eqI a b))
  | .lss => some (.bool (ltI a b))
  | .leq => some (.bool (!ltI b a))
  | .gtr => some (.bool (ltI b a))
  | .geq => some (.bool (!ltI a b))
  | _ => none
def binStr (op : BinOp) (a b : List UInt8) : Option V :=
  match op with
  | .add => bif Nat.ble (a.length + b.length) maxI then some (.str (a ++ b)) else none
  | .eql => some (.bool (eqL a b))
  | .neq => some (.bool (!eqL a b))
  | .lss => some (.bool (ltL a b))
  | .leq => some (.bool (ltL a b || eqL a b))
  | .gtr => some (.bool (!(ltL a b || eqL a b)))
  | .geq => some (.bool (!ltL a b))
  | _ => none
def shiftI (op : BinOp) (k : IntKind) (x y : Int) : Option V :=
  bif ltI y 0 then none else
  match op with
  | .shl => some (wr k (x * 2 ^ (min y.toNat k.bits)))
  | .shr => some (.int k (x.fdiv (2 ^ (min y.toNat k.bits))))
  | _ => none
def isShift : BinOp → Bool
  | .shl | .shr => true
  | _ => false
def bin (op : BinOp) (t : TypeId) (x y : V) : Option V :=
  match x, y with
  | .int k a, .int k' b => bif isShift op then shiftI op k a b else bif kEq k k' then binI op k a b else none
  | .str a, .str b => binStr op a b
  | x, y => match op with
    | .eql => bif guardT P t x y then (eqT P t x y).map .bool else none
    | .neq => bif guardT P t x y then (eqT P t x y).map fun b => .bool (!b) else none
    | _ => none
def un (op : UnOp) (x : V) : Option V :=
  match op, x with
  | .neg, .int k n => some (wr k (0 - n))
  | .xor, .int k n => binI .xor k (if k.signed then -1 else k.max) n
  | .not, .bool b => some (.bool (!b))
  | _, _ => none

/-! ### Cells -/
/-- n cells from off on, if there are so many. -/
def cut (cs : List V) (off n : Nat) : Option (List V) :=
  bif Nat.ble (off + n) cs.length then some ((cs.drop off).take n) else none
def partV (t : TypeId) (cs : List V) (off : Nat) : Option V :=
  match tySz P t with
  | some (true, n) => (cut cs off n).map .agg
  | some (false, _) => cs[off]?
  | none => none
def loadV (H : Heap) (t : TypeId) (a : V) : Option V :=
  match a with
  | .ptr n off => match H.get n with
    | some (.cells cs _) => partV P t cs off
    | _ => none
  | .vptr cs off => partV P t cs off
  | _ => none
def splice (cs : List V) (off : Nat) (vs : List V) : Option (List V) :=
  bif Nat.ble (off + vs.length) cs.length then some (cs.take off ++ (vs ++ cs.drop (off + vs.length))) else none
/-- Parts set into cells, part by part. -/
def fillM (place : Nat → Option (Nat × Nat)) : List V → List (Nat × V) → Option (List V)
  | cells, [] => some cells
  | cells, (i, v) :: r => match place i, v.cells? with
    | some (off, s), some cs => bif Nat.beq cs.length s then (match splice cells off cs with
      | some c => fillM place c r
      | none => none) else none
    | _, _ => none
/-- The same where the parts stand in order, each behind the one before it. -/
def fillF (place : Nat → Option (Nat × Nat)) : Nat → Nat → List (Nat × V) → Option (List V)
  | _, _, [] => some []
  | j, off, (i, v) :: r => match place i, v.cells? with
    | some (o, s), some cs => bif Nat.beq i j && (Nat.beq o off && Nat.beq cs.length s) then (match fillF place (j + 1) (off + s) r with
      | some t => some (cs ++ t)
      | none => none) else none
    | _, _ => none
def fillV (place : Nat → Option (Nat × Nat)) (zero : List V) (parts : List (Nat × V)) : Option (List V) :=
  match fillF place 0 0 parts with
  | some cs => bif Nat.beq cs.length zero.length then some cs else fillM place zero parts
  | none => fillM place zero parts
def repl (z : List V) : Nat → List V
  | 0 => []
  | n + 1 => z ++ repl z n
def bytesV (l : List UInt8) : List V := l.map fun b => .int .u8 b.toNat
def toBytes : List V → Option (List UInt8)
  | [] => some []
  | .int .u8 n :: r => (toBytes r).map (UInt8.ofNat n.toNat :: ·)
  | _ => none
/-- The cells and the length of a slice (or a text, as bytes). -/
def rowOf (H : Heap) : V → Option (List V × Nat)
  | .nilslice => some ([], 0)
  | .slice n off len s => match H.get n with
    | some (.cells cs _) => (cut cs off (len * s)).map fun r => (r, len)
    | _ => none
  | .vec cs len => some (cs, len)
  | _ => none

/-- What is made by a new block. -/
inductive Mk where
  | ptr | map | slice (len sz : Nat)
def Mk.v : Mk → Nat → V
  | .ptr, n => .ptr n 0
  | .map, n => .map n
  | .slice len s, n => .slice n 0 len s

/-- What an operation does. -/
inductive Eff where
  | val (v : V)
  | new (o : AObj) (mk : Mk)
  | upd (n : Nat) (o : AObj) (v : V)
  | app (kill : Option Nat) (o : AObj) (len sz : Nat)
  | enter (f : FuncId) (args : List V)
  | round (n : Nat) (args : List V)
  | defer (d : AD)
  | panic (t : TypeId) (v : V)
  | stop
def Eff.of : Option V → Eff
  | some v => .val v
  | none => .stop

def boundV (x : V) (y : Nat) : Option Nat := match x with
  | .int _ n => bif ltI n 0 then none else bif Nat.ble n.toNat y then some n.toNat else none
  | _ => none
def boundO (d : Nat) (x : Option V) (y : Nat) : Option Nat := match x with
  | some v => boundV v y
  | none => some d
def bounds2 (len cap : Nat) (lo hi : Option V) : Option (Nat × Nat) :=
  match boundO len hi cap with
  | none => none
  | some h => match boundO 0 lo h with
    | none => none
    | some l => some (l, h)
def sliceV (t : TypeId) (x : V) (lo hi : Option V) : Option V :=
  match P.underlying t, x with
  | some .string, .str s => match bounds2 s.length s.length lo hi with
    | some (l, h) => some (.str ((s.drop l).take (h - l)))
    | none => none
  | some (.slice e), .nilslice => match bounds2 0 0 lo hi, sz P e with
    | some _, some _ => some .nilslice
    | _, _ => none
  | some (.slice e), .slice n off len s => match bounds2 len len lo hi, sz P e with
    | some (l, h), some k => bif Nat.beq k s then some (.slice n (off + l * s) (h - l) s) else none
    | _, _ => none
  | some (.slice e), .vec cs len => match bounds2 len len lo hi, sz P e with
    | some (l, h), some k => some (.vec ((cs.drop (l * k)).take ((h - l) * k)) (h - l))
    | _, _ => none
  | _, _ => none
def indexAddrV (t : TypeId) (x i : V) : Option V :=
  match i with
  | .int _ k => bif ltI k 0 then none else
    match P.underlying t, x with
    | some (.slice e), .slice n off len _ => bif Nat.blt k.toNat len then (sz P e).map fun s => .ptr n (off + k.toNat * s) else none
    | some (.slice e), .vec cs len => bif Nat.blt k.toNat len then (sz P e).map fun s => .vptr cs (k.toNat * s) else none
    | some (.array m e), .ptr n off => bif Nat.blt k.toNat m then (sz P e).map fun s => .ptr n (off + k.toNat * s) else none
    | some (.array m e), .vptr cs off => bif Nat.blt k.toNat m then (sz P e).map fun s => .vptr cs (off + k.toNat * s) else none
    | _, _ => none
  | _ => none
def indexV (t : TypeId) (x i : V) : Option V :=
  match i with
  | .int _ k => bif ltI k 0 then none else
    match P.underlying t, x with
    | some .string, .str s => match s[k.toNat]? with
      | some b => some (.int .u8 b.toNat)
      | none => none
    | some (.array m e), .agg cs => bif Nat.blt k.toNat m then (match sz P e with | some s => partV P e cs (k.toNat * s) | none => none) else none
    | _, _ => none
  | _ => none
def fieldAddrV (s : TypeId) (x : V) (f : Nat) : Option V :=
  match P.underlying s with
  | some (.struct fs) => match fs[f]? with
    | some fd => match sz P fd.type, x with
      | some (_ + 1), .ptr n off => some (.ptr n (off + fd.offset))
      | some (_ + 1), .vptr cs off => some (.vptr cs (off + fd.offset))
      | _, _ => none
    | none => none
  | _ => none
def fieldV (s : TypeId) (x : V) (f : Nat) : Option V :=
  match P.underlying s, x with
  | some (.struct fs), .agg cs => match fs[f]? with
    | some fd => partV P fd.type cs fd.offset
    | none => none
  | _, _ => none

/-! ### Maps -/
def keyScT (t : TypeId) (x : V) : Bool :=
  match P.underlying t, x with
  | some .bool, .bool _ | some (.int _), .int _ _ | some .string, .str _ => true
  | _, _ => false
def keyFieldsT : List Field → Nat → List V → Bool
  | [], _, [] => true
  | f :: fs, k, a :: x => Nat.beq f.offset k && (keyScT P f.type a && keyFieldsT fs (k + 1) x)
  | _, _, _ => false
/-- Is a value a key of a type that is a scalar, or a struct of scalars? -/
def keyOk (t : TypeId) (v : V) : Bool :=
  match P.underlying t, v with
  | some (.struct fs), .agg x => keyFieldsT P fs.toList 0 x
  | _, v => keyScT P t v
def findE (t : TypeId) (k : V) : List (V × V × Nat) → Nat → Option (Option (Nat × V × Nat))
  | [], _ => some none
  | (k', v, b) :: r, i => match eqT P t k k' with
    | some true => some (some (i, v, b))
    | some false => findE t k r (i + 1)
    | none => none
/-- An entry's key and value put anew. -/
def modE : List (V × V × Nat) → Nat → Option V → Option V → List (V × V × Nat)
  | [], _, _, _ => []
  | (k, v, b) :: r, 0, k', v' => (k'.getD k, v'.getD v, b) :: r
  | e :: r, i + 1, k', v' => e :: modE r i k' v'
def findBorn (s : Int) : List (V × V × Nat) → Nat → Option Nat
  | [], _ => none
  | (_, _, b) :: r, i => bif eqI (.ofNat b) s then some i else findBorn s r (i + 1)

/-- What a map has under a key. -/
def lookE (H : Heap) (kt : TypeId) (m k : V) : Option (Option (Nat × V × Nat)) :=
  match m with
  | .nilmap => some none
  | .map r => match H.get r with
    | some (.map es _) => findE P kt k es 0
    | _ => none
  | _ => none

def minmax (mx : Bool) : V → V → Option V
  | .int k a, .int k' b => bif kEq k k' then some (.int k (bif mx then (bif ltI a b then b else a) else (bif ltI b a then b else a))) else none
  | _, _ => none
def foldMM (mx : Bool) : V → List V → Option V
  | a, [] => some a
  | a, b :: r => match minmax mx a b with | some c => foldMM mx c r | none => none

def lenV (H : Heap) (t : TypeId) (x : V) : Option Nat :=
  match P.underlying t, x with
  | some .string, .str l => some l.length
  | some (.array n _), _ => some n
  | some (.slice _), .slice _ _ n _ => some n
  | some (.slice _), .vec _ n => some n
  | some (.slice _), .nilslice => some 0
  | some (.map _ _), .nilmap => some 0
  | some (.map _ _), .map r => match H.get r with
    | some (.map es _) => some es.length
    | _ => none
  | some (.pointer a), _ => match P.underlying a with
    | some (.array n _) => some n
    | _ => none
  | _, _ => none
/-- The bound below which an append has room. -/
def roomN : Nat := 140737488355328
def appendV (H : Heap) (t : TypeId) (s x : V) : Eff :=
  match P.underlying t with
  | some (.slice e) => match P.info? e, zeroV P e, rowOf H s, rowOf H x with
    | some i, some z, some (a, n), some (c, m) =>
      bif Nat.beq m 0 then .val s else
      match z.cells? with
      | some zc =>
        bif (Nat.beq zc.length i.size && Nat.blt 0 i.size) && (Nat.beq c.length (m * i.size) && (Nat.beq a.length (n * i.size) && Nat.ble ((n + m) * i.bytes) roomN && Nat.ble (n + m) roomN)) then
          match s with
          | .nilslice => .app none (.cells (a ++ c) e) (n + m) i.size
          | .slice k _ _ s' => match H.get k with
            | some (.cells _ et) => bif Nat.beq s' i.size && Nat.beq et e then .app (some k) (.cells (a ++ c) e) (n + m) i.size else .stop
            | _ => .stop
          | _ => .stop
        else .stop
      | none => .stop
    | _, _, _, _ => .stop
  | _ => .stop
def builtinV (H : Heap) (b : Builtin) (ts : List TypeId) (args : List V) : Eff :=
  match b, ts, args with
  | .append, [t, t'], [s, x] => bif Nat.beq t t' then appendV P H t s x else .stop
  | .len, [t], [x] => match lenV P H t x with | some n => .val (.int .i64 n) | none => .stop
  | .min, _, a :: r => Eff.of (foldMM false a r)
  | .max, _, a :: r => Eff.of (foldMM true a r)
  | _, _, _ => .stop

def callV (f : FuncId) (args : List V) : Eff :=
  match P.funcs[f]? with
  | none => .stop
  | some fn => match fn.body with
    | some _ => .enter f args
    | none => .stop

/-- Conversions. -/
def convV (H : Heap) (src dst : TypeId) (v : V) : Eff :=
  match P.underlying src, P.underlying dst, v with
  | some (.int _), some (.int k), .int _ n => .val (wr k n)
  | some .string, some .string, .str l => .val (.str l)
  | some (.int _), some .string, .int _ n => .val (.str (Utf8.encode n).data.toList)
  | some (.slice e), some .string, x => match P.underlying e, rowOf H x with
    | some (.int .u8), some (r, n) => bif Nat.beq r.length n then Eff.of ((toBytes r).map .str) else .stop
    | _, _ => .stop
  | _, _, _ => .stop

/-- What is asked of a program once, by the kernel. -/
def goodB : Bool :=
  P.follows .mixedOrders && P.funcs.toList.all fun fn => fn.name != "runtime.NumGoroutine"

/-- What an operation does, on the values of its operands. -/
def evalOp (ρ : Operand → V) (H : Heap) (o : Oper) : Eff :=
  match o.op with
  | .move x | .assign x => .val (ρ x)
  | .pick c a b => match ρ c with | .bool t => .val (bif t then ρ a else ρ b) | _ => .stop
  | .alloc e => match zeroV P e with
    | some z => match z.cells? with
      | some cs => .new (.cells cs e) .ptr
      | none => .stop
    | none => .stop
  | .box e x => match (ρ x).cells? with
    | some cs => .new (.cells cs e) .ptr
    | none => .stop
  | .build t parts => match zeroV P t, P.underlying t with
    | some (.agg z), some (.struct fs) => match fs.toList.mapM fun f => (sz P f.type).map fun s => (f.offset, s) with
      | some pl => Eff.of ((fillV (pl[·]?) z (parts.toList.map fun x => (x.1, ρ x.2))).map .agg)
      | none => .stop
    | some (.agg z), some (.array _ e) => match sz P e with
      | some s => Eff.of ((fillV (fun i => some (i * s, s)) z (parts.toList.map fun x => (x.1, ρ x.2))).map .agg)
      | none => .stop
    | _, _ => .stop
  | .buildSlice t len parts => match P.underlying t with
    | some (.slice e) => match zeroV P e, sz P e with
      | some z, some s => match z.cells? with
        | some zc => bif (Nat.beq zc.length s) && (Nat.blt 0 s && (Nat.ble (len * s) 16777216 && Nat.blt 0 len)) then
            match fillV (fun i => some (i * s, s)) (repl zc len) (parts.toList.map fun x => (x.1, ρ x.2)) with
            | some cs => .new (.cells cs e) (.slice len s)
            | none => .stop
          else bif Nat.beq len 0 then (match parts.toList with
            | [] => .new (.cells [] e) (.slice 0 s)
            | _ => .stop) else .stop
        | none => .stop
      | _, _ => .stop
    | _ => .stop
  | .load t a => Eff.of (loadV P H t (ρ a))
  | .store t a x => match ρ a, (ρ x).cells?, sz P t with
    | .ptr n off, some vs, some s => bif Nat.beq vs.length s then
        (match H.get n with
        | some (.cells cs e) => match splice cs off vs with
          | some cs' => .upd n (.cells cs' e) .any
          | none => .stop
        | _ => .stop) else .stop
    | _, _, _ => .stop
  | .nilCheck x => match ρ x with
    | .ptr n o => .val (.ptr n o)
    | .vptr c o => .val (.vptr c o)
    | .map n => .val (.map n)
    | .func f a b => .val (.func f a b)
    | .yield n => .val (.yield n)
    | _ => .stop
  | .binOp op t x y _ => Eff.of (bin P op t (ρ x) (ρ y))
  | .unOp op _ x => Eff.of (un op (ρ x))
  | .convert src dst x => convV P H src dst (ρ x)
  | .makeInterface t x => match P.underlying t with
    | some (.interface _) => .stop
    | some _ => .val (.iface t (ρ x))
    | none => .stop
  | .makeFunc (.func f) first captured => .val (.func f (first.toList.map ρ) (captured.toList.map ρ))
  | .makeMap _ none => .new (.map [] 0) .map
  | .makeSlice t l c => match P.underlying t with
    | some (.slice e) => match P.info? e, zeroV P e, ρ l, ρ c with
      | some i, some z, .int .i64 n, .int .i64 m => match z.cells? with
        | some zc => bif (eqI n m && !ltI n 0) && ((Nat.beq zc.length i.size && Nat.blt 0 i.size) && (Nat.ble (n.toNat * i.bytes) roomN && Nat.ble n.toNat roomN)) then
            .new (.cells (repl zc n.toNat) e) (.slice n.toNat i.size)
          else .stop
        | none => .stop
      | _, _, _, _ => .stop
    | _ => .stop
  | .slice t x lo hi none => Eff.of (sliceV P t (ρ x) (lo.map ρ) (hi.map ρ))
  | .fieldAddr s x f => Eff.of (fieldAddrV P s (ρ x) f)
  | .field s x f => Eff.of (fieldV P s (ρ x) f)
  | .indexAddr t x i => Eff.of (indexAddrV P t (ρ x) (ρ i))
  | .index t x i => Eff.of (indexV P t (ρ x) (ρ i))
  | .lookup t x i ok => match P.underlying t with
    | some (.map kt e) =>
      match lookE P H kt (ρ x) (ρ i), (bif keyOk P kt (ρ i) then zeroV P e else none) with
      | some (some (_, v, _)), some _ => .val (bif ok then .tuple [v, .bool true] else v)
      | some none, some z => .val (bif ok then .tuple [z, .bool false] else z)
      | _, _ => .stop
    | _ => .stop
  | .mapUpdate t m k x => match P.underlying t, ρ m with
    | some (.map kt _), .map r => bif keyOk P kt (ρ k) then (match H.get r with
      | some (.map es cl) => match findE P kt (ρ k) es 0 with
        | some (some (i, _, _)) => .upd r (.map (modE es i (some (ρ k)) (some (ρ x))) cl) .any
        | some none => .upd r (.map (es ++ [(ρ k, ρ x, cl)]) (cl + 1)) .any
        | none => .stop
      | _ => .stop) else .stop
    | _, _ => .stop
  | .mapEntry t m k => match P.underlying t, ρ m with
    | some (.map kt e), .map r => bif keyOk P kt (ρ k) then (match H.get r with
      | some (.map es cl) => match findE P kt (ρ k) es 0, zeroV P e with
        | some (some (i, v, b)), some _ => .upd r (.map (modE es i (some (ρ k)) none) cl) (.tuple [v, .int .i64 b])
        | some none, some z => .upd r (.map (es ++ [(ρ k, z, cl)]) (cl + 1)) (.tuple [z, .int .i64 cl])
        | _, _ => .stop
      | _ => .stop) else .stop
    | _, _ => .stop
  | .entryStore _ m s x => match ρ m, ρ s with
    | .map r, .int _ b => match H.get r with
      | some (.map es cl) => match findBorn b es 0 with
        | some i => .upd r (.map (modE es i none (some (ρ x))) cl) .any
        | none => .stop
      | _ => .stop
    | _, _ => .stop
  | .range t x => match P.underlying t, ρ x with
    | some .string, .str l => .new (.strIter l 0) .ptr
    | some (.map _ _), .nilmap => .new (.mapIter none 0 [] 0) .ptr
    | some (.map _ _), .map r => match H.get r with
      | some (.map _ cl) => .new (.mapIter (some r) cl [] cl) .ptr
      | _ => .stop
    | _, _ => .stop
  | .next it true => match ρ it with
    | .ptr n 0 => match H.get n with
      | some (.strIter l p) =>
        bif Nat.blt p l.length then
          .upd n (.strIter l (p + (Utf8.decode ⟨⟨l⟩⟩ p).2)) (.tuple [.bool true, .int .i64 p, .int .i32 (Utf8.decode ⟨⟨l⟩⟩ p).1])
        else .val (.tuple [.bool false])
      | _ => .stop
    | _ => .stop
  | .next it false => match ρ it with
    | .ptr n 0 => match H.get n with
      | some (.mapIter none _ _ _) => .val (.tuple [.bool false])
      | some (.mapIter (some m) since seen st) => match H.get m with
        | some (.map es cl) =>
          bif Nat.ble since st && es.all (fun e => Nat.blt e.2.2 since) then
            match es.filter (fun e => !(seen.any (Nat.beq e.2.2))) with
            | [] => .val (.tuple [.bool false])
            | [(k, v, b)] => .upd n (.mapIter (some m) since (b :: seen) cl) (.tuple [.bool true, k, v])
            | _ => .stop
          else .stop
        | _ => .stop
      | _ => .stop
    | _ => .stop
  | .entry it => match ρ it with
    | .ptr n 0 => match H.get n with
      | some (.mapIter (some m) _ (b :: _) st) => match H.get m with
        | some (.map es cl) => bif Nat.beq cl st then (match es.find? (fun e => Nat.beq e.2.2 b) with
          | some (k, v, _) => .val (.tuple [k, v])
          | none => .stop) else .stop
        | _ => .stop
      | _ => .stop
    | _ => .stop
  | .extract t i => match ρ t with
    | .tuple vs => Eff.of (vs[i]?)
    | _ => .stop
  | .panic x => match ρ x with
    | .iface t v => .panic t v
    | _ => .stop
  | .call c => match c.callee with
    | .builtin b => builtinV P H b c.argTypes.toList (c.args.toList.map ρ)
    | .value f => match ρ f with
      | .func g first captured => callV P g (first ++ (c.args.toList.map ρ) ++ captured)
      | .yield n => .round n (c.args.toList.map ρ)
      | _ => .stop
    | .invoke _ _ => .stop
  | _ => .stop
end
end Go.Abs
