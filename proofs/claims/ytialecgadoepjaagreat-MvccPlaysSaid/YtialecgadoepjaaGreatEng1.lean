/-
  A big-step evaluator for the model's code, in continuation style and in the text's order; the limit of its runs with ever more fuel; its equations.
-/
import Derived.CallsIn
import Derived.RangeFuncIn
namespace Go.Cb

abbrev R := Option (Value × World)
abbrev Env := Nat → Value

def upd (e : Env) (d : Nat) (v : Value) : Env := fun k => cond (Nat.beq k d) v (e k)
def envL (l : List Value) : Env := fun k => l.getD k undef
def tab (N : Nat) (e : Env) : Array Value := ((List.range N).map e).toArray

structure Ctx where
  P : Program
  fn : FuncId → List Value → World → R
  rnd : Nat → FuncId → List Value → Code → Code → World → R
  f : FuncId
  ro : Option Nat
  N : Nat

def rho (N : Nat) (e : Env) : Operand → Value
  | .tmp t => cond (Nat.blt t N) (e t) undef
  | .const v => v
  | .global g => .pointer (some ⟨g, 0, none⟩)
  | .func f => .func (.func f) #[] #[]

def putE (N : Nat) (e : Env) : Option Nat → Value → Env
  | none, _ => e
  | some d, v => cond (Nat.blt d N) (upd e d v) e

def rd {α : Type} (o : Option α) (k : α → R) : R := o.bind k
def rd2 (o : R) (k : Value → World → R) : R := o.bind fun p => k p.1 p.2

/-! ### The pure operations -/

def pickV : Value → Value → Value → Option Value
  | .bool t, a, b => some (cond t a b)
  | _, _, _ => none

def nilV : Value → Option Value
  | .pointer (some a) => some (.pointer (some a))
  | .func (.func g) f c => some (.func (.func g) f c)
  | .func (.yield g) f c => some (.func (.yield g) f c)
  | _ => none

def okV (r : Sem Value) : Option Value :=
  match r with
  | .pure v => some v
  | _ => none

/-- an operator on numbers, texts, truth values, and against nil. -/
def binV (op : BinOp) (x y : Value) : Option Value :=
  match op, x, y with
  | .shl, .int k a, .int _ b => if b < 0 then none else some (.int k (k.wrap (a * 2 ^ min b.toNat k.bits)))
  | .shr, .int k a, .int _ b => if b < 0 then none else some (.int k (a.fdiv (2 ^ min b.toNat k.bits)))
  | .add, .int k a, .int k' b => if k = k' then some (.int k (k.wrap (a + b))) else none
  | .sub, .int k a, .int k' b => if k = k' then some (.int k (k.wrap (a - b))) else none
  | .mul, .int k a, .int k' b => if k = k' then some (.int k (k.wrap (a * b))) else none
  | .quo, .int k a, .int k' b => if k = k' then (if b = 0 then none else some (.int k (k.wrap (a.tdiv b)))) else none
  | .rem, .int k a, .int k' b => if k = k' then (if b = 0 then none else some (.int k (a.tmod b))) else none
  | .and, .int k a, .int k' b => if k = k' then okV (Op.intBits .and k a b) else none
  | .or, .int k a, .int k' b => if k = k' then okV (Op.intBits .or k a b) else none
  | .xor, .int k a, .int k' b => if k = k' then okV (Op.intBits .xor k a b) else none
  | .andNot, .int k a, .int k' b => if k = k' then okV (Op.intBits .andNot k a b) else none
  | .eql, .int k a, .int k' b => if k = k' then some (.bool (a == b)) else none
  | .neq, .int k a, .int k' b => if k = k' then some (.bool (a != b)) else none
  | .lss, .int k a, .int k' b => if k = k' then some (.bool (decide (a < b))) else none
  | .leq, .int k a, .int k' b => if k = k' then some (.bool (decide (a ≤ b))) else none
  | .gtr, .int k a, .int k' b => if k = k' then some (.bool (decide (a > b))) else none
  | .geq, .int k a, .int k' b => if k = k' then some (.bool (decide (a ≥ b))) else none
  | .add, .string a, .string b => if ((a.size + b.size : Nat) : Int) > IntKind.i64.max then none else some (.string (a ++ b))
  | .eql, .string a, .string b => some (.bool (a.toList == b.toList))
  | .neq, .string a, .string b => some (.bool !(a.toList == b.toList))
  | .lss, .string a, .string b => some (.bool (Op.bytesLess a.toList b.toList))
  | .leq, .string a, .string b => some (.bool (Op.bytesLess a.toList b.toList || a.toList == b.toList))
  | .gtr, .string a, .string b => some (.bool !(Op.bytesLess a.toList b.toList || a.toList == b.toList))
  | .geq, .string a, .string b => some (.bool !Op.bytesLess a.toList b.toList)
  | _, _, _ => none

def unV (op : UnOp) (x : Value) : Option Value :=
  match op, x with
  | .neg, .int k n => some (.int k (k.wrap (0 - n)))
  | .xor, .int k n => okV (Op.intBits .xor k (if k.signed then -1 else k.max) n)
  | .not, .bool b => some (.bool !b)
  | _, _ => none

def fldA (P : Program) (s : TypeId) (x : Value) (f : Nat) : Option Value :=
  match P.underlying s, x with
  | some (.struct fields), .pointer (some a) =>
    match fields[f]? with
    | some fd => match P.info? fd.type with
      | some i => if i.size = 0 then none else some (.pointer (some (a.add fd.offset)))
      | none => none
    | none => none
  | _, _ => none

def aggT (P : Program) (t : TypeId) : Option Bool :=
  match P.underlying t with
  | some (.struct _) => some true
  | some (.array _ _) => some true
  | some _ => some false
  | none => none

def partV (P : Program) (t : TypeId) (cs : Array Value) (off : Nat) : Option Value :=
  match aggT P t with
  | some true => match P.info? t with
    | some i => some (.agg (cs.extract off (off + i.size)))
    | none => none
  | some false => cs[off]?
  | none => none

def fldV (P : Program) (s : TypeId) (x : Value) (f : Nat) : Option Value :=
  match P.underlying s, x with
  | some (.struct fields), .agg cs =>
    match fields[f]? with
    | some fd => partV P fd.type cs fd.offset
    | none => none
  | _, _ => none

def ixA (P : Program) (t : TypeId) (x i : Value) : Option Value :=
  match i with
  | .int _ n =>
    match P.underlying t, x with
    | some (.slice elem), .slice (some a) len _ =>
      match P.info? elem with
      | some inf => if 0 ≤ n ∧ n < len then some (.pointer (some (a.add (n.toNat * inf.size)))) else none
      | none => none
    | some (.array len elem), .pointer (some a) =>
      match P.info? elem with
      | some inf => if 0 ≤ n ∧ n < len then some (.pointer (some (a.add (n.toNat * inf.size)))) else none
      | none => none
    | _, _ => none
  | _ => none

def ixV (P : Program) (t : TypeId) (x i : Value) : Option Value :=
  match i with
  | .int _ n =>
    match P.underlying t, x with
    | some .string, .string s => if 0 ≤ n then (s[n.toNat]?).map fun b => .int .u8 b.toNat else none
    | some (.array len elem), .agg cs =>
      match P.info? elem with
      | some inf => if 0 ≤ n ∧ n < len then partV P elem cs (n.toNat * inf.size) else none
      | none => none
    | _, _ => none
  | _ => none

/-- the bounds of x[lo:hi:mx]; c: the capacity (of a text its length), l: the length. -/
def bdV (x : Value) (y : Nat) : Option Nat :=
  match x with
  | .int _ i => if 0 ≤ i ∧ i ≤ y then some i.toNat else none
  | _ => none
def bdO (d : Nat) (y : Nat) : Option Value → Option Nat
  | none => some d
  | some v => bdV v y

def slV (P : Program) (t : TypeId) (x : Value) (lo hi mx : Option Value) : Option Value :=
  match P.underlying t, x, mx with
  | some .string, .string s, none =>
    (bdO s.size s.size hi).bind fun h => (bdO 0 h lo).bind fun l => some (.string (s.extract l h))
  | some (.slice elem), .slice a len cap, none =>
    (bdO len cap hi).bind fun h => (bdO 0 h lo).bind fun l =>
      match P.info? elem with
      | some inf => some (.slice (if cap = l then a else a.map (·.add (l * inf.size))) (h - l) (cap - l))
      | none => none
  | some (.slice elem), .slice a _ cap, some m =>
    match hi with
    | none => none
    | some hv => (bdV m cap).bind fun m => (bdV hv m).bind fun h => (bdO 0 h lo).bind fun l =>
      match P.info? elem with
      | some inf => some (.slice (if m = l then a else a.map (·.add (l * inf.size))) (h - l) (m - l))
      | none => none
  | some (.array n elem), .pointer (some a), none =>
    (bdO n n hi).bind fun h => (bdO 0 h lo).bind fun l =>
      match P.info? elem with
      | some inf => some (.slice (some (if n = l then a else a.add (l * inf.size))) (h - l) (n - l))
      | none => none
  | _, _, _ => none

def extV (x : Value) (i : Nat) : Option Value :=
  match x with
  | .tuple vs => vs[i]?
  | _ => none

def fldsV (P : Program) : List Field → Option (List (Nat × Nat))
  | [] => some []
  | f :: r => (P.info? f.type).bind fun i => (fldsV P r).map ((f.offset, i.size) :: ·)

def bldV (P : Program) (t : TypeId) (parts : List (Nat × Value)) : Option Value :=
  (P.info? t).bind fun i => i.zero.bind fun z =>
  match P.underlying t with
  | some (.struct fields) => (fldsV P fields.toList).bind fun ps => (Instr.fill (ps[·]?) z.cells parts).map .agg
  | some (.array _ elem) => (P.info? elem).bind fun ie => (Instr.fill (fun j => some (j * ie.size, ie.size)) z.cells parts).map .agg
  | _ => none

def lenV (x : Value) : Option Value :=
  match x with
  | .string s => some (goInt s.size)
  | .slice _ n _ => some (goInt n)
  | _ => none
def capV (x : Value) : Option Value :=
  match x with
  | .slice _ _ n => some (goInt n)
  | _ => none

/-! ### Those that read -/

def cellsAt (w : World) (a : Addr) : Nat → Nat → Option (List Value)
  | _, 0 => some []
  | i, n + 1 => (w.cell? (a.add i)).bind fun v => (cellsAt w a (i + 1) n).map (v :: ·)

def ldV (P : Program) (t : TypeId) (x : Value) (w : World) : Option Value :=
  match x with
  | .pointer (some a) =>
    match aggT P t with
    | some true => match P.info? t with
      | some i => (cellsAt w a 0 i.size).map fun l => .agg l.toArray
      | none => none
    | some false => w.cell? a
    | none => none
  | _ => none

/-! ### The rest, as the model runs it -/

def rawV (P : Program) (s : Sem Value) (w : World) : R :=
  match s.run P w with
  | .ok v w' => some (v, w')
  | .halt _ _ => none
def rawU (P : Program) (s : Sem Unit) (w : World) : R :=
  match s.run P w with
  | .ok _ w' => some (undef, w')
  | .halt _ _ => none
def rawN (P : Program) (s : Sem Next) (w : World) : R :=
  match s.run P w with
  | .ok (.value v) w' => some (v, w')
  | _ => none

/-- are two values of a type equal? Truth values, numbers, texts, and structs of such. -/
def eqFs (P : Program) (eq : TypeId → Value → Value → Option Bool) (xs ys : Array Value) : List Field → Option Bool
  | [] => some true
  | f :: r => cond (decide (f.name = "_")) (eqFs P eq xs ys r)
    ((partV P f.type xs f.offset).bind fun a => (partV P f.type ys f.offset).bind fun b => (eq f.type a b).bind fun t => cond t (eqFs P eq xs ys r) (some false))
def eqV (P : Program) : Nat → TypeId → Value → Value → Option Bool
  | 0, _, _, _ => none
  | d + 1, t, x, y =>
    match x, y with
    | .bool a, .bool b => (match P.underlying t with | some .bool => some (a == b) | _ => none)
    | .int k a, .int k' b => (match P.underlying t with | some (.int _) => (if k = k' then some (a == b) else none) | _ => none)
    | .string a, .string b => (match P.underlying t with | some .string => some (a == b) | _ => none)
    | .agg xs, .agg ys => (match P.underlying t with | some (.struct fs) => cond (P.stoodInHeld t) none (eqFs P (eqV P d) xs ys fs.toList) | _ => none)
    | _, _ => none
def cmpO (op : BinOp) (r : Option Bool) : Option Value :=
  match op with
  | .eql => r.map .bool
  | .neq => r.map fun b => .bool !b
  | _ => none
def cmpV (P : Program) (op : BinOp) (t : TypeId) (x y : Value) : Option Value :=
  match x, y with
  | .bool _, .bool _ => cmpO op (eqV P 10000 t x y)
  | .agg _, .agg _ => cond (P.eqGuardType P.depth t) none (cmpO op (eqV P 10000 t x y))
  | _, _ => none

def binG (st : Bool) (P : Program) (op : BinOp) (t : TypeId) (ox oy : Operand) (x y : Value) (w : World) : R :=
  match binV op x y with
  | some v => some (v, w)
  | none => match cmpV P op t x y with
    | some v => some (v, w)
    | none => cond st none (rawV P (do eqGuard op t ox oy x y; binOp op t x y) w)

/-- what may be asked whether it is a constant: only the two nil interfaces' '==' asks it. -/
def opnd : Operand → Operand
  | .const _ => .const .nilFunc
  | _ => .tmp 0

/-- a run that leaves the world as it is. -/
noncomputable def sameW (P : Program) (s : Sem Value) (w : World) : R :=
  match s.run P w with
  | .ok v w' => open Classical in if w' = w then some (v, w) else none
  | .halt _ _ => none

noncomputable def cvG (st : Bool) (P : Program) (s d : TypeId) (x : Value) (w : World) : R :=
  match P.underlying s, P.underlying d, x with
  | some (.int _), some (.int k), .int _ n => some (.int k (k.wrap n), w)
  | some .string, some .string, .string b => some (.string b, w)
  | _, _, _ => cond st (sameW P (convert s d x) w) (rawV P (convert s d x) w)
noncomputable def lkG (st : Bool) (P : Program) (t : TypeId) (x i : Value) (ok : Bool) (w : World) : R :=
  cond st (sameW P (Instr.lookup t x i ok) w) (rawV P (Instr.lookup t x i ok) w)

def lenG (st : Bool) (P : Program) (b : Builtin) (ts : Array TypeId) (t : TypeId) (cs : Array Bool) (args : List Value) (w : World) : R :=
  match b, args with
  | .len, [.slice _ n _] => (match (ts[0]?).bind P.underlying with | some (.slice _) => some (goInt n, w) | _ => none)
  | .len, [.string s] => (match (ts[0]?).bind P.underlying with | some .string => some (goInt s.size, w) | _ => none)
  | .cap, [.slice _ _ n] => (match (ts[0]?).bind P.underlying with | some (.slice _) => some (goInt n, w) | _ => none)
  | b, args => cond st none (rawN P (builtin b ts t cs args.toArray) w)

/-! ### One operation -/

def yieldR (C : Ctx) (l : Nat) (args : List Value) (w : World) : R :=
  match w.heap[l]? with
  | some (.loop r) =>
    if args.length = r.params.size then
      C.rnd l r.fn ((r.params.zip args.toArray).foldl (fun tmps (t, a) => tmps.setIfInBounds t a) r.tmps).toList r.assign r.body w
    else none
  | _ => none

def callV (C : Ctx) (v : Value) (args : List Value) (w : World) : R :=
  match v with
  | .func (.func g) first cap => C.fn g (first.toList ++ (args ++ cap.toList)) w
  | .func (.yield l) first _ => yieldR C l (first.toList ++ args) w
  | _ => none

def optV (ρ : Operand → Value) : Option Operand → Option Value
  | none => none
  | some x => some (ρ x)

def isConstO : Operand → Bool
  | .const _ => true
  | _ => false

def mapO (ρ : Operand → Value) : List Operand → List Value
  | [] => []
  | x :: r => ρ x :: mapO ρ r
def mapC : List Operand → List Bool
  | [] => []
  | x :: r => isConstO x :: mapC r
def mapP (ρ : Operand → Value) : List (Nat × Operand) → List (Nat × Value)
  | [] => []
  | x :: r => (x.1, ρ x.2) :: mapP ρ r

/-- an operation's value and world go on to K. st: the region's order is drawn: then only operations whose place in the order does not matter, or is fixed, may stand. -/
noncomputable def evalOp (C : Ctx) (st : Bool) (e : Env) (o : Oper) (w : World) (K : Value → World → R) : R :=
  match o.op with
  | .move x => K (rho C.N e x) w
  | .assign x => K (rho C.N e x) w
  | .pick c a b => rd (pickV (rho C.N e c) (rho C.N e a) (rho C.N e b)) fun v => K v w
  | .nilCheck x => rd (nilV (rho C.N e x)) fun v => K v w
  | .binOp op t x y _ => rd2 (binG st C.P op t (opnd x) (opnd y) (rho C.N e x) (rho C.N e y) w) K
  | .unOp op _ x => rd (unV op (rho C.N e x)) fun v => K v w
  | .convert s d x => rd2 (cvG st C.P s d (rho C.N e x) w) K
  | .fieldAddr s x f => rd (fldA C.P s (rho C.N e x) f) fun v => K v w
  | .field s x f => rd (fldV C.P s (rho C.N e x) f) fun v => K v w
  | .indexAddr t x i => rd (ixA C.P t (rho C.N e x) (rho C.N e i)) fun v => K v w
  | .index t x i => rd (ixV C.P t (rho C.N e x) (rho C.N e i)) fun v => K v w
  | .slice t x lo hi mx => rd (slV C.P t (rho C.N e x) (optV (rho C.N e) lo) (optV (rho C.N e) hi) (optV (rho C.N e) mx)) fun v => K v w
  | .extract x i => rd (extV (rho C.N e x) i) fun v => K v w
  | .build t parts => rd (bldV C.P t (mapP (rho C.N e) parts.toList)) fun v => K v w
  | .makeFunc fn first cap => K (.func fn (mapO (rho C.N e) first.toList).toArray (mapO (rho C.N e) cap.toList).toArray) w
  | .load t a => rd (ldV C.P t (rho C.N e a) w) fun v => K v w
  | .alloc t => rd2 (rawV C.P (Instr.alloc t true (.tuple #[])) w) K
  | .box t x => rd2 (rawV C.P (Instr.box t (rho C.N e x)) w) K
  | .buildSlice t n parts => rd2 (rawV C.P (Instr.buildSlice t n (mapP (rho C.N e) parts.toList).toArray) w) K
  | .store t a x => rd2 (rawU C.P (Instr.storeAt t (rho C.N e a) (rho C.N e x)) w) K
  | .makeInterface t x => rd2 (rawV C.P (Instr.makeInterface t (rho C.N e x)) w) K
  | .makeMap t r => rd2 (rawV C.P (Instr.makeMap t (optV (rho C.N e) r)) w) K
  | .makeSlice t l c => rd2 (rawV C.P (Instr.makeSlice t (rho C.N e l) (rho C.N e c)) w) K
  | .lookup t x i ok => rd2 (lkG st C.P t (rho C.N e x) (rho C.N e i) ok w) K
  | .mapUpdate t m k x => rd2 (rawU C.P (Instr.mapUpdate t (rho C.N e m) (rho C.N e k) (rho C.N e x)) w) K
  | .insert t m k x => rd2 (rawU C.P (Instr.mapUpdate t (rho C.N e m) (rho C.N e k) (rho C.N e x)) w) K
  | .mapEntry t m k => rd2 (rawV C.P (Instr.mapEntry t (rho C.N e m) (rho C.N e k)) w) K
  | .entryStore t m s x => rd2 (rawU C.P (Instr.entryStore t (rho C.N e m) (rho C.N e s) (rho C.N e x)) w) K
  | .range t x => rd2 (rawV C.P (Instr.range t (rho C.N e x)) w) K
  | .next it s => rd2 (rawV C.P (Instr.next (rho C.N e it) s o.type) w) K
  | .entry it => rd2 (rawV C.P (Instr.entry (rho C.N e it)) w) K
  | .typeAssert x t u ok => rd2 (rawV C.P (Instr.typeAssert (rho C.N e x) t u ok) w) K
  | .call c => match c.callee with
    | .value f => rd2 (callV C (rho C.N e f) (mapO (rho C.N e) c.args.toList) w) K
    | .builtin b => rd2 (lenG st C.P b c.argTypes o.type (mapC c.args.toList).toArray (mapO (rho C.N e) c.args.toList) w) K
    | .invoke _ _ => none
  | _ => none

/-- a guarded operation is carried out only where its guard says so. -/
def gate (x : Value) (want : Bool) (r : Unit → R) (w : World) : R :=
  match x with
  | .bool b => cond (b == want) (r ()) (some (undef, w))
  | _ => some (undef, w)

def guardE (N : Nat) (e : Env) (ops : Array Oper) (j : Nat) : Value :=
  match (ops[j]?).bind (·.dst) with
  | some d => cond (Nat.blt d N) (e d) undef
  | none => undef

noncomputable def evalOpG (C : Ctx) (st : Bool) (ops : Array Oper) (e : Env) (o : Oper) (w : World) (K : Value → World → R) : R :=
  match o.guard with
  | none => evalOp C st e o w K
  | some (j, want) => rd2 (gate (guardE C.N e ops j) want (fun _ => evalOp C st e o w fun v w => some (v, w)) w) K

noncomputable def evalOps (C : Ctx) (st : Bool) (ops : Array Oper) : List Oper → Env → World → (Env → World → R) → R
  | [], e, w, K => K e w
  | o :: r, e, w, K => evalOpG C st ops e o w fun v w => evalOps C st ops r (putE C.N e o.dst v) w K

end Go.Cb
