/-
  The evaluator of code; calls and rounds with ever more fuel; their limit and its equations.
-/
import Derived.Test.YtialecgadoepjaaGreatEng1
import Derived.Test.YtialecgadoepjaaGreatEng0
namespace Go.Cb

noncomputable def limR (g : Nat → R) : R :=
  open Classical in if h : ∃ n, (g n).isSome = true then g h.choose else none

def iter (step : (Env → World → R) → Env → World → R) : Nat → Env → World → R
  | 0 => fun _ _ => none
  | n + 1 => step (iter step n)

def thenK (nx : Env → World → R) (K : Exit → Env → World → R) : Exit → Env → World → R
  | .normal, e, w => nx e w
  | x, e, w => K x e w

def blkK (id : Nat) (K : Exit → Env → World → R) : Exit → Env → World → R
  | .exit j, e, w => cond (Nat.beq j id) (K .normal e w) (K (.exit j) e w)
  | x, e, w => K x e w

/-- no goto leaves a scope here. -/
def scpK (K : Exit → Env → World → R) : Exit → Env → World → R
  | .goto _, _, _ => none
  | x, e, w => K x e w

def cnd (c : Value) (a b : Unit → R) : R :=
  match c with
  | .bool t => cond t (a ()) (b ())
  | _ => none

def drw (w : World) : World := { w with drawn := w.drawn + 1 }

def World.push (w : World) (o : Obj) : World := { w with heap := w.heap.push o }
def World.putObj (w : World) (r : Nat) (o : Obj) : World := { w with heap := w.heap.setIfInBounds r o }

def unset (v : Value) : Bool :=
  match v with
  | .tuple vs => vs.size == 0
  | _ => false

/-- the end of a range over a function: the record is shut; what a round left to be done is done. -/
def endL (l : Nat) (K : Exit → Env → World → R) (e : Env) (w : World) : R :=
  match w.heap[l]? with
  | some (.loop r) =>
    match r.state with
    | .busy => none
    | _ =>
      match r.pending with
      | none => K .normal e (World.putObj w l (.loop { r with state := .exhausted }))
      | some .ret => K .ret e (World.putObj w l (.loop { r with state := .exhausted }))
      | some (.exit id) => K (.exit id) e (World.putObj w l (.loop { r with state := .exhausted }))
      | some _ => none
  | _ => none

def newLoop (f : FuncId) (tmps : Array Value) (ps : Array Tmp) (assign body : Code) (D : Nat) : Obj :=
  .loop { state := .ready, pending := none, fn := f, tmps := tmps, params := ps, assign := assign, body := body, defers := D }

/-- has the function a body? -/
def bodied (P : Program) (f : FuncId) : Bool :=
  match P.funcs[f]? with
  | some g => g.body.isSome
  | none => false

def rngR (C : Ctx) (g : Value) (ps : Array Tmp) (assign body : Code) (K : Exit → Env → World → R) (e : Env) (w : World) : R :=
  match g with
  | .func (.func f) first cap =>
    cond (bodied C.P f)
      (match C.ro with
      | none =>
        cond (unset (e C.N))
          (rd2 (callV C (.func (.func f) first cap) [.func (.yield (w.heap.size + 1)) #[] #[]] (World.push (World.push w (.deferred (some []))) (newLoop C.f (tab C.N e) ps assign body w.heap.size)))
            fun _ w' => endL (w.heap.size + 1) K (upd e C.N (.map (some w.heap.size))) w') none
      | some l0 =>
        match w.heap[l0]? with
        | some (.loop r0) =>
          rd2 (callV C (.func (.func f) first cap) [.func (.yield w.heap.size) #[] #[]] (World.push w (newLoop C.f (tab C.N e) ps assign body r0.defers)))
            fun _ w' => endL w.heap.size K e w'
        | _ => none) none
  | _ => none

noncomputable def evalCode (C : Ctx) : Code → (Exit → Env → World → R) → Env → World → R
  | .skip, K, e, w => K .normal e w
  | .label _, K, e, w => K .normal e w
  | .region id ops draw, K, e, w =>
    cond draw
      (cond (C.P.follows .mixedOrders && regOk ops) (evalT C ops (Region.schedule true ops (w.tape w.drawn (.order C.f id))) 5 (befL ops.toList []) (numL ops.toList 0) e (drw w) fun e w => K .normal e w) none)
      (evalOps C false ops ops.toList e w fun e w => K .normal e w)
  | .seq a b, K, e, w => evalCode C a (thenK (evalCode C b K) K) e w
  | .cond c a b, K, e, w => cnd (rho C.N e c) (fun _ => evalCode C a K e w) (fun _ => evalCode C b K e w)
  | .block id c, K, e, w => evalCode C c (blkK id K) e w
  | .loop c, K, e, w => limR fun n => iter (fun rec => evalCode C c (thenK rec K)) n e w
  | .rangeFunc g ps assign body, K, e, w => rngR C (rho C.N e g) ps assign body K e w
  | .exit id, K, e, w => K (.exit id) e w
  | .ret, K, e, w => K .ret e w
  | .scope c, K, e, w => evalCode C c (scpK K) e w
  | .goto _, _, _, _ => none
  | .refuse _, _, _, _ => none

noncomputable def evalLoop (C : Ctx) (c : Code) (K : Exit → Env → World → R) (e : Env) (w : World) : R :=
  limR fun n => iter (fun rec => evalCode C c (thenK rec K)) n e w

/-! ### Functions and rounds -/

def resK (P : Program) (N : Nat) (e : Env) (w : World) : List ResultVar → List Value → (List Value → R) → R
  | [], acc, K => K acc
  | .tmp t :: r, acc, K => resK P N e w r (acc ++ [rho N e (.tmp t)]) K
  | .cell a t :: r, acc, K => rd (ldV P t (rho N e (.tmp a)) w) fun v => resK P N e w r (acc ++ [v]) K

def oneV : List Value → Value
  | [v] => v
  | l => .tuple l.toArray

/-- the mark of a range over a function is taken back when its function is left. -/
def shutK (v : Value) (w : World) (k : World → R) : R :=
  match v with
  | .map (some D) =>
    match w.heap[D]? with
    | some (.deferred (some [])) => k (World.putObj w D (.deferred none))
    | _ => none
  | _ => k w

def endF (P : Program) (fn : Func) (e : Env) (w : World) : R :=
  shutK (e fn.ntmps) w fun w => resK P fn.ntmps e w fn.results.toList [] fun l => some (oneV l, w)

def endK (P : Program) (fn : Func) : Exit → Env → World → R
  | .normal, e, w => endF P fn e w
  | .ret, e, w => endF P fn e w
  | _, _, _ => none

def begR (l : Nat) (w : World) (k : World → R) : R :=
  match w.heap[l]? with
  | some (.loop r) =>
    match r.state with
    | .ready => k (World.putObj w l (.loop { r with state := .busy }))
    | _ => none
  | _ => none

def finR (l : Nat) (jump : Option Code) (w : World) : R :=
  match w.heap[l]? with
  | some (.loop r) => some (.bool jump.isNone, World.putObj w l (.loop { r with state := if jump.isNone then .ready else .done, pending := jump }))
  | _ => none

def rndK (l : Nat) : Exit → Env → World → R
  | .normal, _, w => finR l none w
  | .ret, _, w => finR l (some .ret) w
  | .exit id, _, w => finR l (some (.exit id)) w
  | _, _, _ => none

abbrev FnT := FuncId → List Value → World → R
abbrev RndT := Nat → FuncId → List Value → Code → Code → World → R

noncomputable def evalRound (C : Ctx) (l : Nat) (tmps : List Value) (assign body : Code) (w : World) : R :=
  evalCode C assign (thenK (fun e w => begR l w fun w => evalCode C body (rndK l) e w) fun _ _ _ => none) (envL tmps) w

noncomputable def fnS (P : Program) (fn : FnT) (rnd : RndT) : FnT := fun f args w =>
  match P.funcs[f]? with
  | none => none
  | some g =>
    match g.body with
    | some c => cond (g.name == "runtime.NumGoroutine") none (cond (Nat.ble args.length g.ntmps) (evalCode ⟨P, fn, rnd, f, none, g.ntmps⟩ c (endK P g) (envL args) w) none)
    | none => rawN P (callFunc f args.toArray) w

noncomputable def rndS (P : Program) (fn : FnT) (rnd : RndT) : RndT := fun l f tmps assign body w =>
  evalRound ⟨P, fn, rnd, f, some l, tmps.length⟩ l tmps assign body w

noncomputable def stp (P : Program) : Nat → FnT × RndT
  | 0 => (fun _ _ _ => none, fun _ _ _ _ _ _ => none)
  | n + 1 => (fnS P (stp P n).1 (stp P n).2, rndS P (stp P n).1 (stp P n).2)

/-- what a call of a function comes to. -/
noncomputable def Fn (P : Program) : FnT := fun f args w => limR fun n => (stp P n).1 f args w
noncomputable def Rnd (P : Program) : RndT := fun l f tmps a b w => limR fun n => (stp P n).2 l f tmps a b w

/-! ### Limits -/

/-- g grows, and r is where it ends. -/
def Lim (g : Nat → R) (r : R) : Prop := (∀ n v, g n = some v → g (n + 1) = some v) ∧ ∀ v, r = some v ↔ ∃ n, g n = some v

theorem Lim.mono {g : Nat → R} {r : R} (h : Lim g r) {n m : Nat} (hnm : n ≤ m) {v : Value × World} (hv : g n = some v) : g m = some v := by
  induction hnm with
  | refl => exact hv
  | step _ ih => exact h.1 _ _ ih

theorem Lim.const (r : R) : Lim (fun _ => r) r := ⟨fun _ _ h => h, fun _ => ⟨fun h => ⟨0, h⟩, fun ⟨_, h⟩ => h⟩⟩

theorem lim_limR {g : Nat → R} (h : ∀ n v, g n = some v → g (n + 1) = some v) : Lim g (limR g) := by
  refine ⟨h, fun v => ?_⟩
  have hm : ∀ {n m : Nat}, n ≤ m → ∀ {v}, g n = some v → g m = some v := by
    intro n m hnm v hv
    induction hnm with
    | refl => exact hv
    | step _ ih => exact h _ _ ih
  unfold limR
  constructor
  · intro hv
    split at hv
    · rename_i hex
      exact ⟨_, hv⟩
    · cases hv
  · rintro ⟨n, hn⟩
    have hex : ∃ n, (g n).isSome = true := ⟨n, by rw [hn]; rfl⟩
    rw [dif_pos hex]
    obtain ⟨u, hu⟩ := Option.isSome_iff_exists.1 hex.choose_spec
    rw [hu]
    have h1 := hm (Nat.le_max_left n hex.choose) hn
    have h2 := hm (Nat.le_max_right n hex.choose) hu
    rw [h1] at h2; exact h2.symm

theorem Lim.eq {g : Nat → R} {r s : R} (h : Lim g r) (h' : Lim g s) : r = s := by
  apply Option.ext
  intro v
  rw [h.2, h'.2]

theorem Lim.rd {α : Type} {o : Option α} {k : Nat → α → R} {k' : α → R} (h : ∀ v, Lim (fun n => k n v) (k' v)) : Lim (fun n => rd o (k n)) (Cb.rd o k') := by
  cases o with
  | none => exact Lim.const none
  | some v => exact h v

theorem Lim.rd2 {c : Nat → R} {c' : R} {k : Nat → Value → World → R} {k' : Value → World → R} (hc : Lim c c') (h : ∀ v w, Lim (fun n => k n v w) (k' v w)) :
    Lim (fun n => rd2 (c n) (k n)) (Cb.rd2 c' k') := by
  constructor
  · intro n v hv
    cases hcn : c n with
    | none => simp [Cb.rd2, hcn] at hv
    | some p =>
      simp only [Cb.rd2, hcn, Option.bind_some] at hv
      simp only [Cb.rd2, hc.1 _ _ hcn, Option.bind_some]
      exact (h p.1 p.2).1 _ _ hv
  · intro v
    constructor
    · intro hv
      cases hc' : c' with
      | none => simp [Cb.rd2, hc'] at hv
      | some p =>
        simp only [Cb.rd2, hc', Option.bind_some] at hv
        obtain ⟨n, hn⟩ := (hc.2 p).1 hc'
        obtain ⟨m, hm⟩ := ((h p.1 p.2).2 v).1 hv
        refine ⟨max n m, ?_⟩
        simp only [Cb.rd2, hc.mono (Nat.le_max_left n m) hn, Option.bind_some]
        exact (h p.1 p.2).mono (Nat.le_max_right n m) hm
    · rintro ⟨n, hn⟩
      cases hcn : c n with
      | none => simp [Cb.rd2, hcn] at hn
      | some p =>
        simp only [Cb.rd2, hcn, Option.bind_some] at hn
        simp only [Cb.rd2, (hc.2 p).2 ⟨n, hcn⟩, Option.bind_some]
        exact ((h p.1 p.2).2 v).2 ⟨n, hn⟩

theorem Lim.cond {b : Bool} {x y : Nat → R} {x' y' : R} (hx : Lim x x') (hy : Lim y y') : Lim (fun n => _root_.cond b (x n) (y n)) (_root_.cond b x' y') := by
  cases b
  · exact hy
  · exact hx

/-! ### The evaluator is continuous -/

/-- contexts that grow towards one. -/
structure LimC (c : Nat → Ctx) (c' : Ctx) : Prop where
  P : ∀ n, (c n).P = c'.P
  f : ∀ n, (c n).f = c'.f
  ro : ∀ n, (c n).ro = c'.ro
  N : ∀ n, (c n).N = c'.N
  fn : ∀ f a w, Lim (fun n => (c n).fn f a w) (c'.fn f a w)
  rnd : ∀ l f t a b w, Lim (fun n => (c n).rnd l f t a b w) (c'.rnd l f t a b w)

theorem LimC.const (c : Ctx) : LimC (fun _ => c) c := ⟨fun _ => rfl, fun _ => rfl, fun _ => rfl, fun _ => rfl, fun _ _ _ => Lim.const _, fun _ _ _ _ _ _ => Lim.const _⟩

theorem LimC.callV {c : Nat → Ctx} {c' : Ctx} (h : LimC c c') (v : Value) (args : List Value) (w : World) : Lim (fun n => callV (c n) v args w) (callV c' v args w) := by
  unfold Cb.callV
  split
  · exact h.fn _ _ _
  · unfold Cb.yieldR
    split
    · split
      · exact h.rnd _ _ _ _ _ _
      · exact Lim.const _
    · exact Lim.const _
  · exact Lim.const _

theorem LimC.evalOp {c : Nat → Ctx} {c' : Ctx} (h : LimC c c') (st : Bool) (e : Env) (o : Oper) (w : World) {K : Nat → Value → World → R} {K' : Value → World → R}
    (hK : ∀ v w, Lim (fun n => K n v w) (K' v w)) : Lim (fun n => evalOp (c n) st e o w (K n)) (evalOp c' st e o w K') := by
  unfold Cb.evalOp
  simp only [h.P, h.N]
  cases o.op <;> dsimp only
  case call cl =>
    cases cl.callee <;> dsimp only
    · exact Lim.rd2 (h.callV _ _ _) hK
    · exact Lim.const _
    · exact Lim.rd2 (Lim.const _) hK
  all_goals first
    | exact Lim.const _
    | exact hK _ _
    | exact Lim.rd fun v => hK v _
    | exact Lim.rd2 (Lim.const _) hK

theorem LimC.evalOpG {c : Nat → Ctx} {c' : Ctx} (h : LimC c c') (st : Bool) (ops : Array Oper) (e : Env) (o : Oper) (w : World) {K : Nat → Value → World → R} {K' : Value → World → R}
    (hK : ∀ v w, Lim (fun n => K n v w) (K' v w)) : Lim (fun n => evalOpG (c n) st ops e o w (K n)) (evalOpG c' st ops e o w K') := by
  unfold Cb.evalOpG
  simp only [h.N]
  cases o.guard with
  | none => exact h.evalOp st e o w hK
  | some g =>
    obtain ⟨j, want⟩ := g
    dsimp only
    refine Lim.rd2 ?_ hK
    unfold gate
    split
    · exact Lim.cond (h.evalOp st e o w fun _ _ => Lim.const _) (Lim.const _)
    · exact Lim.const _

theorem LimC.evalOps {c : Nat → Ctx} {c' : Ctx} (h : LimC c c') (st : Bool) (ops : Array Oper) : ∀ (l : List Oper) (e : Env) (w : World) {K : Nat → Env → World → R} {K' : Env → World → R},
    (∀ e w, Lim (fun n => K n e w) (K' e w)) → Lim (fun n => evalOps (c n) st ops l e w (K n)) (evalOps c' st ops l e w K')
  | [], e, w, K, K', hK => hK e w
  | o :: r, e, w, K, K', hK => by
    unfold Cb.evalOps
    simp only [h.N]
    exact h.evalOpG st ops e o w fun v w => h.evalOps st ops r _ w hK

theorem Lim.chks : ∀ (l : List Prop) {k : Nat → Unit → R} {k' : Unit → R}, Lim (fun n => k n ()) (k' ()) → Lim (fun n => chks l (k n)) (Cb.chks l k')
  | [], _, _, h => h
  | p :: r, k, k', h => by
    unfold Cb.chks chk
    split
    · exact Lim.chks r h
    · exact Lim.const _

theorem LimC.evalL {c : Nat → Ctx} {c' : Ctx} (h : LimC c c') (ops : Array Oper) (bf : List Nat) : ∀ (l : List (Nat × Oper)) (rl : List Rd) (wl : List (Nat × World)) (e : Env) (w : World)
    {K : Nat → Env → World → R} {K' : Env → World → R}, (∀ e w, Lim (fun n => K n e w) (K' e w)) → Lim (fun n => evalL (c n) ops bf l rl wl e w (K n)) (evalL c' ops bf l rl wl e w K')
  | [], rl, wl, e, w, K, K', hK => hK e w
  | (j, o) :: r, rl, wl, e, w, K, K', hK => by
    unfold Cb.evalL
    simp only [h.N, h.P]
    split
    · exact h.evalOpG true ops e o w fun v w => h.evalL ops bf r _ _ _ _ hK
    · split
      · exact h.evalOpG true ops e o w fun v w => Lim.chks _ (h.evalL ops bf r _ _ _ _ hK)
      · exact Lim.const _
    · exact Lim.cond (h.evalOpG true ops e o w fun v w => Lim.chks _ (h.evalL ops bf r _ _ _ _ hK)) (Lim.const _)
    · exact Lim.cond (h.evalOpG false ops e o w fun v w => Lim.chks _ (h.evalL ops bf r _ _ _ _ hK)) (Lim.const _)
theorem LimC.evalT {c : Nat → Ctx} {c' : Ctx} (h : LimC c c') (ops : Array Oper) (sch : List Nat) : ∀ (m : Nat) (bf : List Nat) (l : List (Nat × Oper)) (e : Env) (w : World)
    {K : Nat → Env → World → R} {K' : Env → World → R}, (∀ e w, Lim (fun n => K n e w) (K' e w)) → Lim (fun n => evalT (c n) ops sch m bf l e w (K n)) (evalT c' ops sch m bf l e w K')
  | 0, bf, l, e, w, K, K', hK => Lim.const _
  | m + 1, bf, l, e, w, K, K', hK => by
    unfold Cb.evalT
    split
    · exact h.evalL ops bf l _ _ _ _ hK
    · exact Lim.cond (h.evalT ops sch m _ _ _ _ hK) (h.evalT ops sch m _ _ _ _ hK)

theorem Lim.thenK (nx : Nat → Env → World → R) (nx' : Env → World → R) (K : Nat → Exit → Env → World → R) (K' : Exit → Env → World → R)
    (h : ∀ e w, Lim (fun n => nx n e w) (nx' e w)) (hK : ∀ x e w, Lim (fun n => K n x e w) (K' x e w)) (x : Exit) (e : Env) (w : World) :
    Lim (fun n => thenK (nx n) (K n) x e w) (Cb.thenK nx' K' x e w) := by
  cases x <;> first | exact h _ _ | exact hK _ _ _

theorem Lim.endL {l : Nat} {K : Nat → Exit → Env → World → R} {K' : Exit → Env → World → R} (hK : ∀ x e w, Lim (fun n => K n x e w) (K' x e w)) (e : Env) (w : World) :
    Lim (fun n => endL l (K n) e w) (Cb.endL l K' e w) := by
  unfold Cb.endL
  split
  · split
    · exact Lim.const _
    · split <;> first | exact hK _ _ _ | exact Lim.const _
  · exact Lim.const _

theorem LimC.rngR {c : Nat → Ctx} {c' : Ctx} (h : LimC c c') (g : Value) (ps : Array Tmp) (assign body : Code) {K : Nat → Exit → Env → World → R} {K' : Exit → Env → World → R}
    (hK : ∀ x e w, Lim (fun n => K n x e w) (K' x e w)) (e : Env) (w : World) : Lim (fun n => rngR (c n) g ps assign body (K n) e w) (rngR c' g ps assign body K' e w) := by
  unfold Cb.rngR
  simp only [h.ro, h.N, h.f, h.P]
  split
  · refine Lim.cond ?_ (Lim.const _)
    split
    · exact Lim.cond (Lim.rd2 (h.callV _ _ _) fun _ w => Lim.endL hK _ w) (Lim.const _)
    · split
      · exact Lim.rd2 (h.callV _ _ _) fun _ w => Lim.endL hK _ w
      · exact Lim.const _
  · exact Lim.const _

/-- two steps, as a sequence. -/
def two (a b : Env → World → R) : Nat → Env → World → R
  | 0 => a
  | _ + 1 => b
theorem lim_two {a b : Env → World → R} (h : ∀ e w v, a e w = some v → b e w = some v) (e : Env) (w : World) : Lim (fun n => two a b n e w) (b e w) := by
  refine ⟨fun n v hv => ?_, fun v => ⟨fun hv => ⟨1, hv⟩, fun ⟨n, hn⟩ => ?_⟩⟩
  · cases n with
    | zero => exact h e w v hv
    | succ n => exact hv
  · cases n with
    | zero => exact h e w v hn
    | succ n => exact hn

theorem LimC.evalCode {c : Nat → Ctx} {c' : Ctx} (h : LimC c c') : ∀ (x : Code) (K : Nat → Exit → Env → World → R) (K' : Exit → Env → World → R),
    (∀ x e w, Lim (fun n => K n x e w) (K' x e w)) → ∀ e w, Lim (fun n => evalCode (c n) x (K n) e w) (evalCode c' x K' e w)
  | .skip, K, K', hK, e, w => hK _ _ _
  | .label _, K, K', hK, e, w => hK _ _ _
  | .exit _, K, K', hK, e, w => hK _ _ _
  | .ret, K, K', hK, e, w => hK _ _ _
  | .goto _, K, K', hK, e, w => Lim.const _
  | .refuse _, K, K', hK, e, w => Lim.const _
  | .region _ ops draw, K, K', hK, e, w => by
    unfold Cb.evalCode
    simp only [h.P, h.f]
    exact Lim.cond (Lim.cond (h.evalT _ _ _ _ _ _ _ fun e w => hK _ _ _) (Lim.const _)) (h.evalOps _ _ _ _ _ fun e w => hK _ _ _)
  | .seq a b, K, K', hK, e, w => by
    unfold Cb.evalCode
    exact h.evalCode a (fun n => Cb.thenK (Cb.evalCode (c n) b (K n)) (K n)) _ (fun x e w => Lim.thenK (fun n => Cb.evalCode (c n) b (K n)) _ K K' (fun e w => h.evalCode b K K' hK e w) hK x e w) e w
  | .cond cc a b, K, K', hK, e, w => by
    unfold Cb.evalCode
    simp only [h.N]
    unfold cnd
    split
    · exact Lim.cond (h.evalCode a K K' hK e w) (h.evalCode b K K' hK e w)
    · exact Lim.const _
  | .block id b, K, K', hK, e, w => by
    unfold Cb.evalCode
    refine h.evalCode b (fun n => blkK id (K n)) _ (fun x e w => ?_) e w
    cases x <;> first | exact hK _ _ _ | exact Lim.cond (hK _ _ _) (hK _ _ _)
  | .scope b, K, K', hK, e, w => by
    unfold Cb.evalCode
    refine h.evalCode b (fun n => scpK (K n)) _ (fun x e w => ?_) e w
    cases x <;> first | exact hK _ _ _ | exact Lim.const _
  | .rangeFunc g ps assign body, K, K', hK, e, w => by
    unfold Cb.evalCode
    simp only [h.N]
    exact h.rngR _ _ _ _ hK e w
  | .loop b, K, K', hK, e, w => by
    unfold Cb.evalCode
    have mono : ∀ (C : Ctx) (L : Exit → Env → World → R) (m : Nat) (e : Env) (w : World) (v : Value × World),
        iter (fun rec => Cb.evalCode C b (Cb.thenK rec L)) m e w = some v → iter (fun rec => Cb.evalCode C b (Cb.thenK rec L)) (m + 1) e w = some v := by
      intro C L m
      induction m with
      | zero => intro e w v hv; cases hv
      | succ m ih =>
        intro e w v hv
        have key := (LimC.const C).evalCode b (fun n => Cb.thenK (two (iter (fun rec => Cb.evalCode C b (Cb.thenK rec L)) m) (iter (fun rec => Cb.evalCode C b (Cb.thenK rec L)) (m + 1)) n) L)
          (Cb.thenK (iter (fun rec => Cb.evalCode C b (Cb.thenK rec L)) (m + 1)) L) (fun x e w => Lim.thenK _ _ (fun _ => L) L (fun e w => lim_two ih e w) (fun x e w => Lim.const _) x e w) e w
        exact key.1 0 v hv
    have inner : ∀ m e w, Lim (fun n => iter (fun rec => Cb.evalCode (c n) b (Cb.thenK rec (K n))) m e w) (iter (fun rec => Cb.evalCode c' b (Cb.thenK rec K')) m e w) := by
      intro m
      induction m with
      | zero => exact fun e w => Lim.const none
      | succ m ih => exact fun e w => h.evalCode b (fun n => Cb.thenK (iter (fun rec => Cb.evalCode (c n) b (Cb.thenK rec (K n))) m) (K n)) _ (fun x e w => Lim.thenK (fun n => iter (fun rec => Cb.evalCode (c n) b (Cb.thenK rec (K n))) m) _ K K' ih hK x e w) e w
    have hl : ∀ C L, Lim (fun m => iter (fun rec => Cb.evalCode C b (Cb.thenK rec L)) m e w) (limR fun m => iter (fun rec => Cb.evalCode C b (Cb.thenK rec L)) m e w) :=
      fun C L => lim_limR fun m v hv => mono C L m e w v hv
    constructor
    · intro n v hv
      obtain ⟨m, hm⟩ := ((hl _ _).2 v).1 hv
      exact ((hl _ _).2 v).2 ⟨m, (inner m e w).1 _ _ hm⟩
    · intro v
      constructor
      · intro hv
        obtain ⟨m, hm⟩ := ((hl _ _).2 v).1 hv
        obtain ⟨n, hn⟩ := ((inner m e w).2 v).1 hm
        exact ⟨n, ((hl _ _).2 v).2 ⟨m, hn⟩⟩
      · rintro ⟨n, hn⟩
        obtain ⟨m, hm⟩ := ((hl _ _).2 v).1 hn
        exact ((hl _ _).2 v).2 ⟨m, ((inner m e w).2 v).2 ⟨n, hm⟩⟩

theorem iter_mono (C : Ctx) (b : Code) (L : Exit → Env → World → R) : ∀ (m : Nat) (e : Env) (w : World) (v : Value × World),
    iter (fun rec => evalCode C b (thenK rec L)) m e w = some v → iter (fun rec => evalCode C b (thenK rec L)) (m + 1) e w = some v := by
  intro m
  induction m with
  | zero => intro e w v hv; cases hv
  | succ m ih =>
    intro e w v hv
    have key := (LimC.const C).evalCode b (fun n => thenK (two (iter (fun rec => evalCode C b (thenK rec L)) m) (iter (fun rec => evalCode C b (thenK rec L)) (m + 1)) n) L)
      (thenK (iter (fun rec => evalCode C b (thenK rec L)) (m + 1)) L) (fun x e w => Lim.thenK _ _ (fun _ => L) L (fun e w => lim_two ih e w) (fun x e w => Lim.const _) x e w) e w
    exact key.1 0 v hv

/-- one round of a loop. -/
theorem evalLoop_eq (C : Ctx) (b : Code) (K : Exit → Env → World → R) (e : Env) (w : World) : evalLoop C b K e w = evalCode C b (thenK (evalLoop C b K) K) e w := by
  have h1 : Lim (fun n => iter (fun rec => evalCode C b (thenK rec K)) (n + 1) e w) (evalCode C b (thenK (evalLoop C b K) K) e w) :=
    (LimC.const C).evalCode b (fun n => thenK (iter (fun rec => evalCode C b (thenK rec K)) n) K) (thenK (evalLoop C b K) K)
      (fun x e w => Lim.thenK (fun n => iter (fun rec => evalCode C b (thenK rec K)) n) (evalLoop C b K) (fun _ => K) K (fun e w => lim_limR fun m v hv => iter_mono C b K m e w v hv) (fun _ _ _ => Lim.const _) x e w) e w
  have h2 : Lim (fun n => iter (fun rec => evalCode C b (thenK rec K)) (n + 1) e w) (evalLoop C b K e w) := by
    have h := lim_limR fun m v hv => iter_mono C b K m e w v hv
    refine ⟨fun n v hv => h.1 _ _ hv, fun v => ?_⟩
    refine (h.2 v).trans ⟨fun ⟨n, hn⟩ => ⟨n, h.1 _ _ hn⟩, fun ⟨n, hn⟩ => ⟨n + 1, hn⟩⟩
  exact h2.eq h1

/-! ### Calls and rounds with more fuel -/

theorem fnS_lim {P : Program} {fn : Nat → FnT} {fn' : FnT} {rnd : Nat → RndT} {rnd' : RndT} (hf : ∀ f a w, Lim (fun n => fn n f a w) (fn' f a w))
    (hr : ∀ l f t a b w, Lim (fun n => rnd n l f t a b w) (rnd' l f t a b w)) (f : FuncId) (args : List Value) (w : World) :
    Lim (fun n => fnS P (fn n) (rnd n) f args w) (fnS P fn' rnd' f args w) := by
  unfold fnS
  split
  · exact Lim.const _
  · split
    · refine Lim.cond (Lim.const _) (Lim.cond ?_ (Lim.const _))
      rename_i g _ _ cc _
      have hC : LimC (fun n => ⟨P, fn n, rnd n, f, none, g.ntmps⟩) ⟨P, fn', rnd', f, none, g.ntmps⟩ := ⟨fun _ => rfl, fun _ => rfl, fun _ => rfl, fun _ => rfl, hf, hr⟩
      exact hC.evalCode cc (fun _ => endK P g) (endK P g) (fun _ _ _ => Lim.const _) _ _
    · exact Lim.const _

theorem begR_lim {l : Nat} {w : World} {k : Nat → World → R} {k' : World → R} (h : ∀ w, Lim (fun n => k n w) (k' w)) : Lim (fun n => begR l w (k n)) (begR l w k') := by
  unfold begR
  split
  · split
    · exact h _
    · exact Lim.const _
  · exact Lim.const _

theorem rndS_lim {P : Program} {fn : Nat → FnT} {fn' : FnT} {rnd : Nat → RndT} {rnd' : RndT} (hf : ∀ f a w, Lim (fun n => fn n f a w) (fn' f a w))
    (hr : ∀ l f t a b w, Lim (fun n => rnd n l f t a b w) (rnd' l f t a b w)) (l : Nat) (f : FuncId) (t : List Value) (a b : Code) (w : World) :
    Lim (fun n => rndS P (fn n) (rnd n) l f t a b w) (rndS P fn' rnd' l f t a b w) := by
  unfold rndS evalRound
  have hC : LimC (fun n => ⟨P, fn n, rnd n, f, some l, t.length⟩) ⟨P, fn', rnd', f, some l, t.length⟩ := ⟨fun _ => rfl, fun _ => rfl, fun _ => rfl, fun _ => rfl, hf, hr⟩
  exact hC.evalCode a (fun n => thenK (fun e w => begR l w fun w => evalCode ⟨P, fn n, rnd n, f, some l, t.length⟩ b (rndK l) e w) fun _ _ _ => none) _
    (fun x e w => Lim.thenK (fun n e w => begR l w fun w => evalCode ⟨P, fn n, rnd n, f, some l, t.length⟩ b (rndK l) e w) _ (fun _ _ _ _ => none) _
      (fun e w => begR_lim fun w => hC.evalCode b (fun _ => rndK l) (rndK l) (fun _ _ _ => Lim.const _) e w) (fun _ _ _ => Lim.const _) x e w) _ w

theorem stp_mono (P : Program) : ∀ n, (∀ f a w v, (stp P n).1 f a w = some v → (stp P (n + 1)).1 f a w = some v) ∧
    (∀ l f t a b w v, (stp P n).2 l f t a b w = some v → (stp P (n + 1)).2 l f t a b w = some v) := by
  intro n
  induction n with
  | zero => exact ⟨fun f a w v hv => by simp [stp] at hv, fun l f t a b w v hv => by simp [stp] at hv⟩
  | succ n ih =>
    have h1 : ∀ f a w, Lim (fun k => (stp P (n + min k 1)).1 f a w) ((stp P (n + 1)).1 f a w) := by
      intro f a w
      refine ⟨fun k v hv => ?_, fun v => ⟨fun hv => ⟨1, hv⟩, fun ⟨k, hk⟩ => ?_⟩⟩
      · cases k with
        | zero => exact ih.1 _ _ _ _ hv
        | succ k => simpa [show min (k + 1) 1 = 1 from by omega, show min (k + 1 + 1) 1 = 1 from by omega] using hv
      · cases k with
        | zero => exact ih.1 _ _ _ _ hk
        | succ k => simpa [show min (k + 1) 1 = 1 from by omega] using hk
    have h2 : ∀ l f t a b w, Lim (fun k => (stp P (n + min k 1)).2 l f t a b w) ((stp P (n + 1)).2 l f t a b w) := by
      intro l f t a b w
      refine ⟨fun k v hv => ?_, fun v => ⟨fun hv => ⟨1, hv⟩, fun ⟨k, hk⟩ => ?_⟩⟩
      · cases k with
        | zero => exact ih.2 _ _ _ _ _ _ _ hv
        | succ k => simpa [show min (k + 1) 1 = 1 from by omega, show min (k + 1 + 1) 1 = 1 from by omega] using hv
      · cases k with
        | zero => exact ih.2 _ _ _ _ _ _ _ hk
        | succ k => simpa [show min (k + 1) 1 = 1 from by omega] using hk
    exact ⟨fun f a w v hv => (fnS_lim (P := P) h1 h2 f a w).1 0 v hv, fun l f t a b w v hv => (rndS_lim (P := P) h1 h2 l f t a b w).1 0 v hv⟩

theorem Fn_lim (P : Program) (f : FuncId) (a : List Value) (w : World) : Lim (fun n => (stp P n).1 f a w) (Fn P f a w) := lim_limR fun n v hv => (stp_mono P n).1 f a w v hv
theorem Rnd_lim (P : Program) (l : Nat) (f : FuncId) (t : List Value) (a b : Code) (w : World) : Lim (fun n => (stp P n).2 l f t a b w) (Rnd P l f t a b w) :=
  lim_limR fun n v hv => (stp_mono P n).2 l f t a b w v hv

theorem Lim.shift {g : Nat → R} {r : R} (h : Lim g r) : Lim (fun n => g (n + 1)) r :=
  ⟨fun _ _ hv => h.1 _ _ hv, fun v => (h.2 v).trans ⟨fun ⟨n, hn⟩ => ⟨n, h.1 _ _ hn⟩, fun ⟨n, hn⟩ => ⟨n + 1, hn⟩⟩⟩

theorem Fn_eq (P : Program) (f : FuncId) (args : List Value) (w : World) : Fn P f args w = fnS P (Fn P) (Rnd P) f args w :=
  (Fn_lim P f args w).shift.eq (fnS_lim (Fn_lim P) (Rnd_lim P) f args w)

theorem Rnd_eq (P : Program) (l : Nat) (f : FuncId) (t : List Value) (a b : Code) (w : World) : Rnd P l f t a b w = rndS P (Fn P) (Rnd P) l f t a b w :=
  (Rnd_lim P l f t a b w).shift.eq (rndS_lim (Fn_lim P) (Rnd_lim P) l f t a b w)

/-- what a call of a function with a body comes to. -/
theorem Fn_body {P : Program} {f : FuncId} {g : Func} {c : Code} (hf : P.funcs[f]? = some g) (hb : g.body = some c) (hnm : (g.name == "runtime.NumGoroutine") = false) (args : List Value) (w : World) (hn : args.length ≤ g.ntmps) :
    Fn P f args w = evalCode ⟨P, Fn P, Rnd P, f, none, g.ntmps⟩ c (endK P g) (envL args) w := by
  rw [Fn_eq]
  unfold fnS
  simp only [hf, hb, hnm]
  rw [show Nat.ble args.length g.ntmps = true from Nat.ble_eq_true_of_le hn]
  rfl

/-- a part of a function's code, by the way to it. -/
def cdAt : Code → List Nat → Code
  | c, [] => c
  | .seq a b, i :: r => bif Nat.beq i 0 then cdAt a r else cdAt b r
  | .cond _ a b, i :: r => bif Nat.beq i 0 then cdAt a r else cdAt b r
  | .block _ c, _ :: r => cdAt c r
  | .loop c, _ :: r => cdAt c r
  | .scope c, _ :: r => cdAt c r
  | .rangeFunc _ _ a b, i :: r => bif Nat.beq i 0 then cdAt a r else cdAt b r
  | c, _ => c
def cdA (f : Func) (p : List Nat) : Code :=
  match f.body with
  | some c => cdAt c p
  | none => .skip

end Go.Cb
