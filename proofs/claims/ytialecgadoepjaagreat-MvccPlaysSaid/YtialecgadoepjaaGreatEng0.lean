/-
  A region whose order is drawn: it is evaluated in the text's order; what might be read at another moment is held against what is read then. Which regions may be evaluated so.
-/
import Derived.Test.YtialecgadoepjaaGreatEng1
namespace Go.Cb

/-- 0: touches no memory · 1: reads · 2: lays a new block · 3: the rest. -/
def clsO (o : Oper) : Nat :=
  match o.op with
  | .move _ | .assign _ | .pick _ _ _ | .nilCheck _ | .binOp _ _ _ _ _ | .unOp _ _ _ | .fieldAddr _ _ _ | .field _ _ _ | .indexAddr _ _ _ | .index _ _ _
  | .slice _ _ _ _ _ | .extract _ _ | .build _ _ | .makeFunc _ _ _ => 0
  | .load _ _ | .convert _ _ _ | .lookup _ _ _ _ => 1
  | .alloc _ | .box _ _ | .buildSlice _ _ _ => 2
  | .call c => match c.callee with
    | .builtin b => match b with
      | .len => 0
      | .cap => 0
      | _ => 3
    | _ => 3
  | _ => 3

def plainEdge (e : Edge) : Bool :=
  match e.ground with
  | .textOnly _ => false
  | .gcOnly _ => false
  | _ => true

/-- what each operation must wait for, bit by bit. -/
def befOne (acc : List Nat) : List Edge → Nat
  | [] => 0
  | e :: r => cond (plainEdge e) (Nat.lor (Nat.lor (2 ^ e.on) (acc.getD e.on 0)) (befOne acc r)) (befOne acc r)
def befL : List Oper → List Nat → List Nat
  | [], acc => acc
  | o :: r, acc => befL r (acc ++ [befOne acc o.after.toList])
def bit (n i : Nat) : Bool := Nat.testBit n i

def tmpsO : List Operand → List Nat
  | [] => []
  | .tmp t :: r => t :: tmpsO r
  | _ :: r => tmpsO r

def dstOf (ops : List Oper) (j : Nat) : Option Nat := (ops[j]?).bind (·.dst)

/-- the slots that an operation looks at. -/
def seesO (ops : List Oper) (o : Oper) : List Nat :=
  tmpsO o.op.operands.toList ++ (match o.guard with | none => [] | some (j, _) => (dstOf ops j).toList)

/-- of two operations of which one writes a slot that the other names, one waits for the other. -/
def slotsOk (bf : List Nat) (i j : Nat) (oi oj : Oper) (si sj : List Nat) : Bool :=
  match oi.dst with
  | none => match oj.dst with
    | none => true
    | some d => !si.contains d || bit (bf.getD j 0) i
  | some c => match oj.dst with
    | none => !sj.contains c || bit (bf.getD j 0) i
    | some d => (!(si.contains d || sj.contains c || c == d)) || bit (bf.getD j 0) i

def pairsOk (ops : List Oper) (bf : List Nat) (j : Nat) (oj : Oper) (sj : List Nat) : List Oper → Nat → Bool
  | [], _ => true
  | oi :: r, i => (Nat.ble j i || slotsOk bf i j oi oj (seesO ops oi) sj) && pairsOk ops bf j oj sj r (i + 1)

def guardOk (o : Oper) (bf : List Nat) (j : Nat) : Bool :=
  match o.guard with
  | none => true
  | some (g, _) => Nat.blt g j && bit (bf.getD j 0) g

def notSelect (o : Oper) : Bool :=
  match o.op with
  | .select _ _ => false
  | _ => true

def eachOk (ops : List Oper) (bf : List Nat) : List Oper → Nat → Bool
  | [], _ => true
  | o :: r, j => (o.after.toList.all fun e => !plainEdge e || Nat.blt e.on j) && notSelect o && guardOk o bf j && pairsOk ops bf j o (seesO ops o) ops 0 && eachOk ops bf r (j + 1)

def regOk (ops : Array Oper) : Bool := eachOk ops.toList (befL ops.toList []) ops.toList 0

noncomputable def chk (p : Prop) (k : Unit → R) : R := open Classical in if p then k () else none
noncomputable def chks : List Prop → (Unit → R) → R
  | [], k => k ()
  | p :: r, k => chk p fun _ => chks r k

/-- what is read, and how. -/
inductive RK where
  | ld (t : TypeId)
  | cv (s d : TypeId)
  | lk (t : TypeId) (ok : Bool) (y : Value)
def RK.isLd : RK → Bool
  | .ld _ => true
  | _ => false
noncomputable def readR (P : Program) : RK → Value → World → Option Value
  | .ld t, x, w => ldV P t x w
  | .cv s d, x, w => (cvG true P s d x w).map (·.1)
  | .lk t ok y, x, w => (lkG true P t x y ok w).map (·.1)
def rkOf (N : Nat) (e : Env) (o : Oper) : Option (RK × Value) :=
  match o.op with
  | .load t a => some (.ld t, rho N e a)
  | .convert s d x => some (.cv s d, rho N e x)
  | .lookup t x i ok => some (.lk t ok (rho N e i), rho N e x)
  | _ => none

/-- a read that was made: its number, its guard, its kind, address and value. -/
structure Rd where
  j : Nat
  g : Option (Value × Bool)
  k : RK
  x : Value
  v : Value

def holdsAt (P : Program) (g : Option (Value × Bool)) (k : RK) (x v : Value) (w : World) : Prop :=
  match g with
  | none => readR P k x w = some v
  | some (y, b) => y = .bool b → readR P k x w = some v

/-- the worlds in which the read j might have been made as well. -/
def oldsR (P : Program) (b : Nat) (g : Option (Value × Bool)) (k : RK) (x v : Value) : List (Nat × World) → List Prop
  | [] => []
  | (i, w) :: r => cond (bit b i) (oldsR P b g k x v r) (holdsAt P g k x v w :: oldsR P b g k x v r)

/-- the reads that might have been made behind the operation j. -/
def oldsW (P : Program) (b : Nat) (w : World) : List Rd → List Prop
  | [] => []
  | d :: r => cond (bit b d.j) (oldsW P b w r) (holdsAt P d.g d.k d.x d.v w :: oldsW P b w r)
/-- of these those that are no loads. -/
def oldsN (P : Program) (b : Nat) (w : World) : List Rd → List Prop
  | [] => []
  | d :: r => cond (bit b d.j || d.k.isLd) (oldsN P b w r) (holdsAt P d.g d.k d.x d.v w :: oldsN P b w r)

def waitsAll (b : Nat) : List (Nat × World) → Bool
  | [] => true
  | (i, _) :: r => bit b i && waitsAll b r

def gOf (N : Nat) (e : Env) (ops : Array Oper) : Option (Nat × Bool) → Option (Value × Bool)
  | none => none
  | some (j, b) => some (guardE N e ops j, b)

/-- the operations l, by their numbers, in this order; bf: what each waits for. -/
noncomputable def evalL (C : Ctx) (ops : Array Oper) (bf : List Nat) : List (Nat × Oper) → List Rd → List (Nat × World) → Env → World → (Env → World → R) → R
  | [], _, _, e, w, K => K e w
  | (j, o) :: r, rl, wl, e, w, K =>
    match clsO o with
    | 0 => evalOpG C true ops e o w fun v _ => evalL C ops bf r rl wl (putE C.N e o.dst v) w K
    | 1 => match rkOf C.N e o with
      | some (k, x) =>
        evalOpG C true ops e o w fun v _ => chks (oldsR C.P (bf.getD j 0) (gOf C.N e ops o.guard) k x v wl) fun _ =>
          evalL C ops bf r (⟨j, gOf C.N e ops o.guard, k, x, v⟩ :: rl) wl (putE C.N e o.dst v) w K
      | _ => none
    | 2 => cond (waitsAll (bf.getD j 0) wl) (evalOpG C true ops e o w fun v w' => chks (oldsN C.P (bf.getD j 0) w' rl) fun _ => evalL C ops bf r rl ((j, w) :: wl) (putE C.N e o.dst v) w' K) none
    | _ => cond (waitsAll (bf.getD j 0) wl)
        (evalOpG C false ops e o w fun v w' => chks (oldsW C.P (bf.getD j 0) w' rl) fun _ => evalL C ops bf r rl ((j, w) :: wl) (putE C.N e o.dst v) w' K) none

/-! Two that write, of which none waits for the other: both orders. -/

def numL : List Oper → Nat → List (Nat × Oper)
  | [], _ => []
  | o :: r, j => (j, o) :: numL r (j + 1)
/-- the first of those ahead of j that write and don't come first. -/
def fstOff (b : Nat) : List (Nat × Oper) → Option Nat
  | [] => none
  | (i, o) :: r => cond (Nat.ble 2 (clsO o) && !bit b i) (some i) (fstOff b r)
def offPair (bf : List Nat) (done : List (Nat × Oper)) : List (Nat × Oper) → Option (Nat × Nat)
  | [] => none
  | (j, o) :: r => cond (Nat.ble 2 (clsO o))
      (match fstOff (bf.getD j 0) done with
      | some i => some (i, j)
      | none => offPair bf (done ++ [(j, o)]) r) (offPair bf (done ++ [(j, o)]) r)
/-- j waits for i, and whoever waits for j. -/
def addB (i j : Nat) (bi : Nat) : Nat → List Nat → List Nat
  | _, [] => []
  | k, b :: r => cond (Nat.beq k j || bit b j) (Nat.lor (Nat.lor b (2 ^ i)) bi) b :: addB i j bi (k + 1) r
/-- j, and what it waits for, set ahead of all others. -/
def pullL (j : Nat) (b : Nat) (l : List (Nat × Oper)) : List (Nat × Oper) :=
  l.filter (fun x => Nat.beq x.1 j || bit b x.1) ++ l.filter (fun x => !(Nat.beq x.1 j || bit b x.1))
/-- does i come ahead of j? -/
def aheadL (i j : Nat) : List Nat → Bool
  | [] => false
  | k :: r => cond (Nat.beq k i) true (cond (Nat.beq k j) false (aheadL i j r))
noncomputable def oneOf (p : Bool) (a b : Unit → R) : R := cond p (a ()) (b ())

noncomputable def evalT (C : Ctx) (ops : Array Oper) (sch : List Nat) : Nat → List Nat → List (Nat × Oper) → Env → World → (Env → World → R) → R
  | 0, _, _, _, _, _ => none
  | n + 1, bf, l, e, w, K =>
    match offPair bf [] l with
    | none => evalL C ops bf l [] [] e w K
    | some (i, j) => oneOf (aheadL i j sch) (fun _ => evalT C ops sch n (addB i j (bf.getD i 0) 0 bf) l e w K) (fun _ => evalT C ops sch n (addB j i (bf.getD j 0) 0 bf) (pullL j (bf.getD j 0) l) e w K)

end Go.Cb
