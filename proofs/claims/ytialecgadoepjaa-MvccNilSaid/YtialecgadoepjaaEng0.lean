/-
  A region whose order is drawn: it is evaluated in the text's order; what might be read at another moment is held against what is read then. Which regions may be evaluated so.
-/
import Derived.Test.YtialecgadoepjaaEng1
namespace Go.Cb

/-- 0: touches no memory · 1: a load · 2: lays a new block · 3: the rest. -/
def clsO (o : Oper) : Nat :=
  match o.op with
  | .move _ | .assign _ | .pick _ _ _ | .nilCheck _ | .binOp _ _ _ _ _ | .unOp _ _ _ | .convert _ _ _ | .fieldAddr _ _ _ | .field _ _ _ | .indexAddr _ _ _ | .index _ _ _
  | .slice _ _ _ _ _ | .extract _ _ | .build _ _ | .makeFunc _ _ _ => 0
  | .load _ _ => 1
  | .alloc _ | .box _ _ | .buildSlice _ _ _ => 2
  | .call c => match c.callee with
    | .builtin b => match b with
      | .len => 0
      | .cap => 0
      | _ => 3
    | _ => 3
  | _ => 3

def plainEdge (e : Edge) : Bool :=
  match e.ground with
  | .textOnly _ => false
  | .gcOnly _ => false
  | _ => true

/-- what each operation must wait for, bit by bit. -/
def befOne (acc : List Nat) : List Edge → Nat
  | [] => 0
  | e :: r => cond (plainEdge e) (Nat.lor (Nat.lor (2 ^ e.on) (acc.getD e.on 0)) (befOne acc r)) (befOne acc r)
def befL : List Oper → List Nat → List Nat
  | [], acc => acc
  | o :: r, acc => befL r (acc ++ [befOne acc o.after.toList])
def bit (n i : Nat) : Bool := Nat.testBit n i

def tmpsO : List Operand → List Nat
  | [] => []
  | .tmp t :: r => t :: tmpsO r
  | _ :: r => tmpsO r

def dstOf (ops : List Oper) (j : Nat) : Option Nat := (ops[j]?).bind (·.dst)

/-- the slots that an operation looks at. -/
def seesO (ops : List Oper) (o : Oper) : List Nat :=
  tmpsO o.op.operands.toList ++ (match o.guard with | none => [] | some (j, _) => (dstOf ops j).toList)

/-- of two operations of which one writes a slot that the other names, one waits for the other. -/
def slotsOk (bf : List Nat) (i j : Nat) (oi oj : Oper) (si sj : List Nat) : Bool :=
  match oi.dst with
  | none => match oj.dst with
    | none => true
    | some d => !si.contains d || bit (bf.getD j 0) i
  | some c => match oj.dst with
    | none => !sj.contains c || bit (bf.getD j 0) i
    | some d => (!(si.contains d || sj.contains c || c == d)) || bit (bf.getD j 0) i

def pairsOk (ops : List Oper) (bf : List Nat) (j : Nat) (oj : Oper) (sj : List Nat) : List Oper → Nat → Bool
  | [], _ => true
  | oi :: r, i => (Nat.ble j i || slotsOk bf i j oi oj (seesO ops oi) sj) && pairsOk ops bf j oj sj r (i + 1)

def guardOk (o : Oper) (bf : List Nat) (j : Nat) : Bool :=
  match o.guard with
  | none => true
  | some (g, _) => Nat.blt g j && bit (bf.getD j 0) g

def notSelect (o : Oper) : Bool :=
  match o.op with
  | .select _ _ => false
  | _ => true

def eachOk (ops : List Oper) (bf : List Nat) : List Oper → Nat → Bool
  | [], _ => true
  | o :: r, j => (o.after.toList.all fun e => !plainEdge e || Nat.blt e.on j) && notSelect o && guardOk o bf j && pairsOk ops bf j o (seesO ops o) ops 0 && eachOk ops bf r (j + 1)

def regOk (ops : Array Oper) : Bool := eachOk ops.toList (befL ops.toList []) ops.toList 0

noncomputable def chk (p : Prop) (k : Unit → R) : R := open Classical in if p then k () else none
noncomputable def chks : List Prop → (Unit → R) → R
  | [], k => k ()
  | p :: r, k => chk p fun _ => chks r k

/-- a load that was made: its number, its guard, its type, address and value. -/
structure Rd where
  j : Nat
  g : Option (Value × Bool)
  t : TypeId
  x : Value
  v : Value

def holdsAt (P : Program) (g : Option (Value × Bool)) (t : TypeId) (x v : Value) (w : World) : Prop :=
  match g with
  | none => ldV P t x w = some v
  | some (y, b) => y = .bool b → ldV P t x w = some v

/-- the worlds in which the load j might have been made as well. -/
def oldsR (P : Program) (b : Nat) (g : Option (Value × Bool)) (t : TypeId) (x v : Value) : List (Nat × World) → List Prop
  | [] => []
  | (i, w) :: r => cond (bit b i) (oldsR P b g t x v r) (holdsAt P g t x v w :: oldsR P b g t x v r)

/-- the loads that might have been made behind the operation j. -/
def oldsW (P : Program) (b : Nat) (w : World) : List Rd → List Prop
  | [] => []
  | d :: r => cond (bit b d.j) (oldsW P b w r) (holdsAt P d.g d.t d.x d.v w :: oldsW P b w r)

def waitsAll (b : Nat) : List (Nat × World) → Bool
  | [] => true
  | (i, _) :: r => bit b i && waitsAll b r

def gOf (N : Nat) (e : Env) (ops : Array Oper) : Option (Nat × Bool) → Option (Value × Bool)
  | none => none
  | some (j, b) => some (guardE N e ops j, b)

noncomputable def evalD (C : Ctx) (ops : Array Oper) (bf : List Nat) : List Oper → Nat → List Rd → List (Nat × World) → Env → World → (Env → World → R) → R
  | [], _, _, _, e, w, K => K e w
  | o :: r, j, rl, wl, e, w, K =>
    match clsO o with
    | 0 => evalOpG C true ops e o w fun v _ => evalD C ops bf r (j + 1) rl wl (putE C.N e o.dst v) w K
    | 1 => match o.op with
      | .load t a =>
        evalOpG C true ops e o w fun v _ => chks (oldsR C.P (bf.getD j 0) (gOf C.N e ops o.guard) t (rho C.N e a) v wl) fun _ =>
          evalD C ops bf r (j + 1) (⟨j, gOf C.N e ops o.guard, t, rho C.N e a, v⟩ :: rl) wl (putE C.N e o.dst v) w K
      | _ => none
    | 2 => cond (waitsAll (bf.getD j 0) wl) (evalOpG C true ops e o w fun v w' => evalD C ops bf r (j + 1) rl ((j, w) :: wl) (putE C.N e o.dst v) w' K) none
    | _ => cond (waitsAll (bf.getD j 0) wl)
        (evalOpG C false ops e o w fun v w' => chks (oldsW C.P (bf.getD j 0) w' rl) fun _ => evalD C ops bf r (j + 1) rl ((j, w) :: wl) (putE C.N e o.dst v) w' K) none

end Go.Cb
