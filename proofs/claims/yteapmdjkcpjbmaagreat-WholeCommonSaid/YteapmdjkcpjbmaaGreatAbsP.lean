/- The abstract evaluator: code, calls, loops, ranges over functions. Definitions only. -/
import Derived.Test.YteapmdjkcpjbmaaGreatAbsO
namespace Go.Abs

inductive Ex where
  | normal | exit (id : Nat) | goto (l : Nat) | ret

inductive Task where
  | call (f : FuncId) (args : List V) (H : Heap) (nx : Nat)
  | loop (ro : Option Nat) (body : Code) (s : St)
  | round (n : Nat) (args : List V) (H : Heap) (nx : Nat)

inductive Out where
  | ret (v : V) (H : Heap) (nx : Nat)
  | code (e : Ex) (s : St)
  | fail (why : String)

/-- Is an operation wanted? -/
def guardV (ops : List Oper) (T : Tr V) (o : Oper) : Option Bool :=
  match o.guard with
  | none => some true
  | some (j, want) => match ops[j]? with
    | some p => match p.dst with
      | some d => match T.get d with
        | some (.bool b) => some (eqB b want)
        | some (.tuple _) => some false
        | _ => none
      | none => none
    | none => none

def St.put (s : St) (d : Option Nat) (v : V) : Option St := match d with
  | none => some s
  | some d => bif Nat.blt d s.nt then some { s with T := s.T.set d v } else none

section
variable (P : Program) (rec : Task → Out)

/-- What an effect makes of a heap. -/
def stepEff (H : Heap) (nx : Nat) : Eff → Step1
  | .enter f args => match rec (.call f args H nx) with
    | .ret v H nx => .done v H nx
    | .code _ _ => .fail "call"
    | .fail why => .fail why
  | .round n args => match rec (.round n args H nx) with
    | .ret v H nx => .done v H nx
    | .code _ _ => .fail "round"
    | .fail why => .fail why
  | e => applyEff H nx e

def evalOps (ops : List Oper) : List Oper → St → Out
  | [], s => .code .normal s
  | o :: rest, s => match guardV ops s.T o with
    | none => .fail "guard"
    | some false => match s.put o.dst (.tuple []) with
      | some s' => evalOps ops rest s'
      | none => .fail "dst"
    | some true => match stepEff rec s.H s.nx (evalOp P (ev s.T) s.H o) with
      | .done v H nx => match ({ s with H := H, nx := nx } : St).put o.dst v with
        | some s' => evalOps ops rest s'
        | none => .fail "dst"
      | .fail why => .fail (o.pos ++ " < " ++ why)

/-! ### A region that draws its order -/
/-- Are two values one? -/
def sameL (g : V → V → Bool) : List V → List V → Bool
  | [], [] => true
  | a :: x, b :: y => g a b && sameL g x y
  | _, _ => false
def sameV : Nat → V → V → Bool
  | 0, _, _ => false
  | f + 1, a, b => match a, b with
    | .any, .any => true
    | .int k n, .int k' n' => kEq k k' && eqI n n'
    | .bool x, .bool y => eqB x y
    | .str x, .str y => eqL x y
    | .ptr n o, .ptr n' o' => Nat.beq n n' && Nat.beq o o'
    | .vptr cs o, .vptr cs' o' => Nat.beq o o' && sameL (sameV f) cs cs'
    | .nilptr, .nilptr => true
    | .slice n o l z, .slice n' o' l' z' => (Nat.beq n n' && Nat.beq o o') && (Nat.beq l l' && Nat.beq z z')
    | .vec cs l, .vec cs' l' => Nat.beq l l' && sameL (sameV f) cs cs'
    | .nilslice, .nilslice => true
    | .map n, .map n' => Nat.beq n n'
    | .nilmap, .nilmap => true
    | .func g x y, .func g' x' y' => Nat.beq g g' && (sameL (sameV f) x x' && sameL (sameV f) y y')
    | .yield n, .yield n' => Nat.beq n n'
    | .nilfunc, .nilfunc => true
    | .iface t x, .iface t' x' => Nat.beq t t' && sameV f x x'
    | .nilIface, .nilIface => true
    | .agg x, .agg y => sameL (sameV f) x y
    | .tuple x, .tuple y => sameL (sameV f) x y
    | _, _ => false
def sameVal (e : Eff) (v : V) : Bool := match e with
  | .val u => sameV 12 u v
  | _ => false

/-- What an operation of such a region was. -/
inductive RK where
  | skip | pure | alloc (o : AObj) | obs | eff (c : Nat)
structure RI where
  /-- what is surely done ahead of it -/
  pm : Nat
  T : Tr V
  v : V
  dst : Option Nat
  reads : List Nat
  k : RK
/-- The heap between the effects, without what was made by the region itself and no effect needed. -/
structure Stg where
  K : Heap
  nx : Nat
  core : Nat
  eff : Nat

def allB (f : Nat → Bool) : Nat → Bool
  | 0 => true
  | n + 1 => f n && allB f n
def bindsAny (e : Edge) : Bool := match e.ground with
  | .textOnly _ | .gcOnly _ => false
  | _ => true
def pmOf (R : Tr RI) (i : Nat) : List Edge → Option Nat
  | [] => some 0
  | e :: r => match pmOf R i r with
    | none => none
    | some m => bif bindsAny e then (bif Nat.blt e.on i then (match R.get e.on with
      | some q => some (Nat.lor m (Nat.lor (Nat.shiftLeft 1 e.on) q.pm))
      | none => none) else none) else some m
def tmpOf : Operand → Option Nat
  | .tmp t => some t
  | _ => none
def readsOf (ops : List Oper) (o : Oper) : Option (List Nat) := match o.guard with
  | none => some (o.op.operands.toList.filterMap tmpOf)
  | some (j, _) => match ops[j]? with
    | some p => match p.dst with
      | some d => some (d :: o.op.operands.toList.filterMap tmpOf)
      | none => none
    | none => none
def inL (t : Nat) : List Nat → Bool
  | [] => false
  | u :: r => Nat.beq t u || inL t r
/-- The heap with what was made by the region under a mask. -/
def mergeH (R : Tr RI) (nx0 core m : Nat) : Nat → Heap → Heap
  | 0, K => K
  | j + 1, K => bif m.testBit j && !core.testBit j then (match R.get j with
      | some ⟨_, _, _, _, _, .alloc o⟩ => (mergeH R nx0 core m j K).set (nx0 + j) o
      | _ => mergeH R nx0 core m j K) else mergeH R nx0 core m j K
/-- The mask of what was made under a mask. -/
def allocM (R : Tr RI) (m : Nat) : Nat → Nat
  | 0 => 0
  | j + 1 => bif m.testBit j then (match R.get j with
      | some ⟨_, _, _, _, _, .alloc _⟩ => Nat.lor (allocM R m j) (Nat.shiftLeft 1 j)
      | _ => allocM R m j) else allocM R m j

structure DS where
  R : Tr RI
  T : Tr V
  S : Tr Stg
  k : Nat

inductive DO where
  | ok (d : DS)
  | fail (why : String)
/-- Writers and readers of one temporary are ordered; no two write one. -/
def orderOk (R : Tr RI) (dst : Option Nat) (reads : List Nat) (pm i : Nat) : Bool :=
  allB (fun j => match R.get j with
    | some q => (match q.dst with
        | some d => !inL d reads || pm.testBit j
        | none => true) &&
      (match dst with
        | some d => (match q.dst with | some d' => !Nat.beq d d' | none => true) && (!inL d q.reads || pm.testBit j)
        | none => true)
    | none => false) i

/-- An observer's value at the stages that were. -/
def obsPast (S : Tr Stg) (R : Tr RI) (nx0 i k pm : Nat) (T : Tr V) (o : Oper) (v : V) : Bool :=
  allB (fun c => match S.get (c + 1), S.get c with
    | some nxt, some st => pm.testBit nxt.eff || sameVal (evalOp P (ev T) (mergeH R nx0 st.core pm i st.K) o) v
    | _, _ => false) k
/-- The observers' values at a new stage. -/
def obsNew (ops : List Oper) (R : Tr RI) (nx0 i pm : Nat) (K : Heap) (core : Nat) : Bool :=
  allB (fun j => match R.get j with
    | some ⟨pj, T, v, _, _, .obs⟩ => pm.testBit j || (match ops[j]? with
      | some o => sameVal (evalOp P (ev T) (mergeH R nx0 core pj j K) o) v
      | none => false)
    | some _ => true
    | none => false) i

def drawEff (ops : List Oper) (nx0 i : Nat) (o : Oper) (pm : Nat) (reads : List Nat) (ds : DS) (st : Stg) (e : Eff) (Hin : Heap) : DO :=
  bif Nat.beq ds.k 0 || pm.testBit st.eff then
    match stepEff rec Hin st.nx e with
    | .done v K nx =>
      bif obsNew P ops ds.R nx0 i pm K (Nat.lor st.core (allocM ds.R pm i)) then
        .ok ⟨ds.R.set i ⟨pm, ds.T, v, o.dst, reads, .eff (ds.k + 1)⟩, (match o.dst with | some d => ds.T.set d v | none => ds.T), ds.S.set (ds.k + 1) ⟨K, nx, Nat.lor st.core (allocM ds.R pm i), i⟩, ds.k + 1⟩
      else .fail "a load after"
    | .fail why => .fail why
  else .fail "chain"
def drawPut (i : Nat) (o : Oper) (pm : Nat) (reads : List Nat) (ds : DS) (v : V) (k : RK) : DS :=
  ⟨ds.R.set i ⟨pm, ds.T, v, o.dst, reads, k⟩, (match o.dst with | some d => ds.T.set d v | none => ds.T), ds.S, ds.k⟩
def drawOp (ops : List Oper) (nx0 i : Nat) (o : Oper) (pm : Nat) (reads : List Nat) (ds : DS) : DO :=
  match guardV ops ds.T o with
  | none => .fail "guard"
  | some false => .ok (drawPut i o pm reads ds (.tuple []) .skip)
  | some true => match evalOp P (ev ds.T) .nil o with
    | .val v => .ok (drawPut i o pm reads ds v .pure)
    | .new ob mk => .ok (drawPut i o pm reads ds (mk.v (nx0 + i)) (.alloc ob))
    | _ => match ds.S.get ds.k with
      | none => .fail "stage"
      | some st => match evalOp P (ev ds.T) (mergeH ds.R nx0 st.core pm i st.K) o with
        | .val v => bif obsPast P ds.S ds.R nx0 i ds.k pm ds.T o v then .ok (drawPut i o pm reads ds v .obs) else .fail "a load ahead"
        | .new _ _ | .stop => .fail ("op " ++ o.pos)
        | e => drawEff P rec ops nx0 i o pm reads ds st e (mergeH ds.R nx0 st.core pm i st.K)

def dstOk (nt : Nat) : Option Nat → Bool
  | some d => Nat.blt d nt
  | none => true
def drawGo (ops : List Oper) (nt nx0 : Nat) : List Oper → Nat → DS → DO
  | [], _, ds => .ok ds
  | o :: rest, i, ds => match pmOf ds.R i o.after.toList, readsOf ops o with
    | some pm, some reads =>
      bif dstOk nt o.dst && orderOk ds.R o.dst reads pm i then
        match drawOp P rec ops nx0 i o pm reads ds with
        | .ok ds' => drawGo ops nt nx0 rest (i + 1) ds'
        | .fail why => .fail why
      else .fail "order"
    | _, _ => .fail "edges"

def evalDraw (ops : List Oper) (s : St) : Out :=
  match drawGo P rec ops s.nt s.nx ops 0 ⟨.nil, s.T, Tr.nil.set 0 ⟨s.H, s.nx + ops.length, 0, 0⟩, 0⟩ with
  | .ok ds => match ds.S.get ds.k with
    | some st => .code .normal { s with T := ds.T, H := mergeH ds.R s.nx st.core (Nat.shiftLeft 1 ops.length - 1) ops.length st.K, nx := st.nx }
    | none => .fail "draw"
  | .fail why => .fail ("draw " ++ (match ops with | o :: _ => o.pos | [] => "") ++ " < " ++ why)

/-- The jump that a round has left. -/
def exOf : Option Code → Option Ex
  | none => some .normal
  | some .ret => some .ret
  | some (.exit i) => some (.exit i)
  | some (.goto l) => some (.goto l)
  | _ => none
def jumpOf : Ex → Option Code
  | .normal => none
  | .ret => some .ret
  | .exit i => some (.exit i)
  | .goto l => some (.goto l)

/-- What is laid at a range over a function: the record's name and the state. -/
def enterV (ro : Option Nat) (params : List Nat) (assign body : Code) (s : St) : Option (Nat × List AD × Heap × Nat) :=
  match ro with
  | some l => match s.H.get l with
    | some (.loop _ _ _ _ _ _ _ d) => some (s.nx, s.D, s.H.set s.nx (.loop .ready none s.T s.nt params assign body d), s.nx + 1)
    | _ => none
  | none => some (s.nx + 1, .mark s.nx :: s.D, (s.H.set s.nx (.deferred false)).set (s.nx + 1) (.loop .ready none s.T s.nt params assign body s.nx), s.nx + 2)
/-- What the end of a range over a function makes of the heap. -/
def leaveV (n : Nat) (H : Heap) : Option (Ex × Heap) :=
  match H.get n with
  | some (.loop .busy _ _ _ _ _ _ _) => none
  | some (.loop _ pend T nt ps as b d) => match exOf pend with
    | some e => some (e, H.set n (.loop .exhausted pend T nt ps as b d))
    | none => none
  | _ => none

def evalCode (ro : Option Nat) : Code → St → Out
  | .skip, s => .code .normal s
  | .region _ ops false, s => evalOps P rec ops.toList ops.toList s
  | .region _ ops true, s => evalDraw P rec ops.toList s
  | .seq a b, s => match evalCode ro a s with
    | .code .normal s' => evalCode ro b s'
    | r => r
  | .cond c a b, s => match ev s.T c with
    | .bool true => evalCode ro a s
    | .bool false => evalCode ro b s
    | _ => .fail "cond"
  | .block id b, s => match evalCode ro b s with
    | .code (.exit i) s' => bif Nat.beq i id then .code .normal s' else .code (.exit i) s'
    | r => r
  | .loop b, s => rec (.loop ro b s)
  | .exit i, s => .code (.exit i) s
  | .label _, s => .code .normal s
  | .goto l, s => .code (.goto l) s
  | .ret, s => .code .ret s
  | .scope b, s => match evalCode ro b s with
    | .code (.goto _) _ => .fail "goto"
    | r => r
  | .rangeFunc f params assign body, s =>
    match ev s.T f, enterV ro params.toList assign body s with
    | .func g first captured, some (n, D, H, nx) => match callV P g (first ++ [.yield n] ++ captured) with
      | .enter g args => match rec (.call g args H nx) with
        | .ret _ H nx => match leaveV n H with
          | some (e, H) => .code e { s with D := D, H := H, nx := nx }
          | none => .fail "end of a range over a function"
        | .code _ _ => .fail "range over a function"
        | .fail why => .fail why
      | _ => .fail "range over a function: callee"
    | _, _ => .fail "range over a function: what is ranged over"
  | .refuse _, _ => .fail "refuse"

def initT : List V → Nat → Tr V → Tr V
  | [], _, t => t
  | v :: r, i, t => initT r (i + 1) (t.set i v)

def resultV (H : Heap) (T : Tr V) : ResultVar → Option V
  | .tmp t => T.get t
  | .cell a t => match T.get a with
    | some v => loadV P H t v
    | none => none
def resultsV (H : Heap) (T : Tr V) : List ResultVar → Option (List V)
  | [] => some []
  | r :: rs => match resultV P H T r, resultsV H T rs with
    | some v, some vs => some (v :: vs)
    | _, _ => none

/-- An activation leaves: its marks, then its results. -/
def leave (fn : Func) (T : Tr V) (nx : Nat) : List AD → Heap → Out
  | [], H => match resultsV P H T fn.results.toList with
    | some [v] => .ret v H nx
    | some vs => .ret (.tuple vs) H nx
    | none => .fail "results"
  | .mark n :: ds, H => match H.get n with
    | some (.deferred false) => leave fn T nx ds (H.set n (.deferred true))
    | _ => .fail "mark"
  | _ :: _, _ => .fail "deferred calls"

/-- The temporaries of a round. -/
def tmpsOf (nt : Nat) : Tr V → List Nat → List V → Option (Tr V)
  | T, [], [] => some T
  | T, p :: ps, v :: vs => bif Nat.blt p nt then tmpsOf nt (T.set p v) ps vs else none
  | _, _, _ => none

def stepTask : Task → Out
  | .call f args H nx => match P.funcs[f]? with
    | some fn => match fn.body with
      | some c =>
        match evalCode P rec none c { T := initT args 0 .nil, nt := args.length + (fn.ntmps - args.length), D := [], H, nx } with
        | .code .normal s => leave P fn s.T s.nx s.D s.H
        | .code .ret s => leave P fn s.T s.nx s.D s.H
        | .code _ _ => .fail "exit"
        | .fail why => .fail (fn.name ++ " < " ++ why)
        | .ret _ _ _ => .fail "ret"
      | none => .fail ("no body " ++ fn.name)
    | none => .fail "no func"
  | .loop ro b s => match evalCode P rec ro b s with
    | .code .normal s' => rec (.loop ro b s')
    | r => r
  | .round n args H nx => match H.get n with
    | some (.loop .ready _ T nt ps as b _) => match tmpsOf nt T ps args with
      | some T' =>
        match evalCode P rec (some n) as { T := T', nt, D := [], H, nx } with
        | .code .normal s1 => match s1.H.get n with
          | some (.loop .ready pend T nt ps as b' d) =>
            match evalCode P rec (some n) b { s1 with H := s1.H.set n (.loop .busy pend T nt ps as b' d) } with
            | .code e s2 => match s2.H.get n with
              | some (.loop _ _ T nt ps as b' d) =>
                .ret (.bool (jumpOf e).isNone) (s2.H.set n (.loop (bif (jumpOf e).isNone then .ready else .done) (jumpOf e) T nt ps as b' d)) s2.nx
              | _ => .fail "end of a round"
            | .fail why => .fail why
            | .ret _ _ _ => .fail "round"
          | _ => .fail "round"
        | .code _ _ => .fail "assign"
        | .fail why => .fail why
        | .ret _ _ _ => .fail "assign"
      | none => .fail "yield"
    | _ => .fail "round"
end

def eval (P : Program) : Nat → Task → Out
  | 0 => fun _ => .fail "fuel"
  | n + 1 => stepTask P (eval P n)
end Go.Abs
