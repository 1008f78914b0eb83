/-
  The evaluator is sound: what it comes to is what the model's machine comes to. First: the operations, in a machine's step.
-/
import Derived.Test.YtialecgadoepjaaGreatEng3
namespace Go.Cb

/-- the fence that lets everything in; in a round of a range over a function. -/
def Fw (ro : Option Nat) : Fence := { fn := fun _ => True, depth := none, alive := false, round := ro }

theorem fenced_Fw (P : Program) (ro : Option Nat) : Machine.fenced P (Fw ro) = Machine.fenced P Fence.wide := rfl
theorem room_Fw (ro : Option Nat) (n : Nat) : (Fw ro).room n := fun _ h => by simp [Fw] at h

def retOk (v : Value) (w' : World) : Ending → World → Prop := fun e w'' => e = .returned v ∧ w'' = w'

/-- a call comes to v and w': either the model has it in place, or the function is entered, and returns. -/
def CallOk (P : Program) (f : FuncId) (args : List Value) (w : World) (v : Value) (w' : World) : Prop :=
  ((callFunc f args.toArray).run P w = .ok (.value v) w') ∨
  ((callFunc f args.toArray).run P w = .ok (.enter f args.toArray) w ∧ Calls P f args.toArray w (retOk v w'))

def RoundOk (P : Program) (l : Nat) (f : FuncId) (tmps : List Value) (a b : Code) (w : World) (v : Value) (w' : World) : Prop :=
  RoundIn Fence.wide 0 P l f tmps.toArray a b w (retOk v w')

structure SoundC (C : Ctx) : Prop where
  fn : ∀ f args w v w', C.fn f args w = some (v, w') → CallOk C.P f args w v w'
  rnd : ∀ l f t a b w v w', C.rnd l f t a b w = some (v, w') → RoundOk C.P l f t a b w v w'

theorem rd_some {α : Type} {o : Option α} {k : α → R} {r : Value × World} (h : rd o k = some r) : ∃ v, o = some v ∧ k v = some r := by
  unfold rd at h; exact Option.bind_eq_some_iff.1 h
theorem rd2_some {o : R} {k : Value → World → R} {r : Value × World} (h : rd2 o k = some r) : ∃ v w, o = some (v, w) ∧ k v w = some r := by
  unfold rd2 at h
  obtain ⟨p, hp, hk⟩ := Option.bind_eq_some_iff.1 h
  exact ⟨p.1, p.2, hp, hk⟩

theorem mapO_eq (ρ : Operand → Value) : ∀ l : List Operand, mapO ρ l = l.map ρ
  | [] => rfl
  | x :: r => by rw [mapO, mapO_eq ρ r]; rfl
theorem mapC_eq : ∀ l : List Operand, mapC l = l.map (fun x => match x with | .const _ => true | _ => false)
  | [] => rfl
  | x :: r => by rw [mapC, mapC_eq r]; cases x <;> rfl
theorem mapP_eq (ρ : Operand → Value) : ∀ l : List (Nat × Operand), mapP ρ l = l.map (fun (i, x) => (i, ρ x))
  | [] => rfl
  | x :: r => by rw [mapP, mapP_eq ρ r]; rfl
theorem arr_map {α β : Type} (f : α → β) (a : Array α) : a.map f = (a.toList.map f).toArray := by
  rw [← Array.toList_map]
theorem optV_eq (ρ : Operand → Value) (o : Option Operand) : optV ρ o = o.map ρ := by cases o <;> rfl

section
variable {C : Ctx} {o : Oper} {a : Act} {w w' : World} {v : Value} {n : Nat} {next : Act → World → Prop} {Q : Exit → Act → World → Prop}

theorem wpIn_value (hd : ∀ c, o.op ≠ .defer c) (h : (execOp a.eval o).run C.P w = .ok (.value v) w') (hn : next (a.put o.dst v) w') : o.wpIn (Fw C.ro) n C.P a w next Q := by
  refine ⟨fun _ _ => trivial, ?_⟩
  rw [Oper.semAt_eq _ _ _ hd, h]
  exact hn
theorem wpIn_unit (hd : ∀ c, o.op ≠ .defer c) (h : (execOp a.eval o).run C.P w = .ok .skip w') (hn : next (a.put o.dst undef) w') : o.wpIn (Fw C.ro) n C.P a w next Q := by
  refine ⟨fun _ _ => trivial, ?_⟩
  rw [Oper.semAt_eq _ _ _ hd, h]
  exact hn

theorem wpIn_enter (hd : ∀ c, o.op ≠ .defer c) {f : FuncId} {args : Array Value} (h : (execOp a.eval o).run C.P w = .ok (.enter f args) w) (hc : Calls C.P f args w (retOk v w'))
    (hn : next (a.put o.dst v) w') : o.wpIn (Fw C.ro) n C.P a w next Q := by
  refine ⟨fun _ _ => trivial, ?_⟩
  rw [Oper.semAt_eq _ _ _ hd, h, Oper.uponIn_enter]
  refine ⟨fun hh => by simp [Fw] at hh, ?_⟩
  have h1 : CallsIn Fence.wide (n - 1) C.P f args w (retOk v w') := callsIn_wide.2 hc
  have h2 : CallsIn (Fw C.ro) (n - 1) C.P f args w (retOk v w') := ⟨trivial, fun cs _ => h1.2 cs (room_wide _)⟩
  refine h2.mono ?_
  rintro e w'' ⟨rfl, rfl⟩
  exact hn

theorem wpIn_round (hd : ∀ c, o.op ≠ .defer c) {l : Nat} {f : FuncId} {t : Array Value} {x y : Code} (h : (execOp a.eval o).run C.P w = .ok (.round l f t x y) w)
    (hc : RoundIn Fence.wide 0 C.P l f t x y w (retOk v w')) (hn : next (a.put o.dst v) w') : o.wpIn (Fw C.ro) n C.P a w next Q := by
  refine ⟨fun _ _ => trivial, ?_⟩
  rw [Oper.semAt_eq _ _ _ hd, h, Oper.uponIn_round]
  refine ⟨fun hh => by simp [Fw] at hh, ?_⟩
  have h2 : RoundIn (Fw C.ro) (n - 1) C.P l f t x y w (retOk v w') := ⟨trivial, fun c cs _ => hc.2 c cs (room_wide _)⟩
  refine h2.mono ?_
  rintro e w'' ⟨rfl, rfl⟩
  exact hn
end

/-- a call through a value, as the machine makes it. -/
theorem callV_run {C : Ctx} (hC : SoundC C) {g : Value} {args : List Value} {w w' : World} {v : Value} (h : callV C g args w = some (v, w')) :
    ∃ d, (Deferred.ofValue g args.toArray).run C.P w = .ok d w ∧
      (((invoke d.target d.args).run C.P w = .ok (.value v) w') ∨
       (∃ f as, (invoke d.target d.args).run C.P w = .ok (.enter f as) w ∧ Calls C.P f as w (retOk v w')) ∨
       (∃ l f t x y, (invoke d.target d.args).run C.P w = .ok (.round l f t x y) w ∧ RoundIn Fence.wide 0 C.P l f t x y w (retOk v w'))) := by
  unfold callV at h
  split at h
  · rename_i f first cap
    have hc := hC.fn _ _ _ _ _ h
    have ha : (first.toList ++ (args ++ cap.toList)).toArray = first ++ args.toArray ++ cap := by simp
    refine ⟨_, rfl, ?_⟩
    rcases hc with hc | ⟨hc, hcall⟩
    · left
      simp only [invoke]
      rw [ha] at hc; exact hc
    · right; left
      refine ⟨f, _, ?_, hcall⟩
      simp only [invoke]
      rw [ha] at hc ⊢; exact hc
  · rename_i l first cap
    unfold yieldR at h
    split at h
    · rename_i r hr
      split at h
      · rename_i hlen
        have hc := hC.rnd _ _ _ _ _ _ _ _ h
        refine ⟨_, rfl, .inr (.inr ⟨l, r.fn, _, r.assign, r.body, ?_, hc⟩)⟩
        simp only [invoke, Instr.yield, Instr.getLoop]
        have he : (first.toList ++ args).toArray = first ++ args.toArray := by simp
        have hsz : (first ++ args.toArray).size = r.params.size := by simpa using hlen
        have hrun : (getObj l).run C.P w = .ok (.loop r) w := by simp [getObj, Sem.run, hr]
        rw [he]
        generalize first ++ args.toArray = as at hsz ⊢
        simp [Sem.run_bind, hrun, hsz]
      · cases h
    · cases h
  · cases h

theorem op_sound {C : Ctx} (hC : SoundC C) {st : Bool} {e : Env} {o : Oper} {w : World} {K : Value → World → R} {r : Value × World} (h : evalOp C st e o w K = some r) :
    ∃ v w', K v w' = some r ∧ ∀ (n : Nat) (next : Act → World → Prop) (Q : Exit → Act → World → Prop) (a : Act), a.eval = rho C.N e → next (a.put o.dst v) w' →
      o.wpIn (Fw C.ro) n C.P a w next Q := by
  unfold evalOp at h
  cases hop : o.op <;> rw [hop] at h <;> dsimp only at h
  case move x => exact ⟨_, _, h, fun n next Q a ha hn => wpIn_value (by simp [hop]) (by simp [execOp, hop, ha]) hn⟩
  case assign x => exact ⟨_, _, h, fun n next Q a ha hn => wpIn_value (by simp [hop]) (by simp [execOp, hop, ha]) hn⟩
  case pick c x y =>
    obtain ⟨v, hv, hk⟩ := rd_some h
    refine ⟨_, _, hk, fun n next Q a ha hn => wpIn_value (by simp [hop]) ?_ hn⟩
    simp only [execOp, hop, ha]
    unfold pickV at hv
    split at hv
    · rename_i t hc
      injection hv with hv; subst hv
      rw [hc]
      cases t <;> simp [asBool]
    · cases hv
  case nilCheck x =>
    obtain ⟨v, hv, hk⟩ := rd_some h
    refine ⟨_, _, hk, fun n next Q a ha hn => wpIn_value (by simp [hop]) ?_ hn⟩
    simp only [execOp, hop, ha]
    obtain ⟨rfl, hx⟩ := nil_run hv
    rcases hx with ⟨p, hx⟩ | ⟨g, f, c, hx⟩ | ⟨g, f, c, hx⟩ <;> rw [hx] <;> rfl
  case binOp op t x y yt =>
    obtain ⟨v, w', hv, hk⟩ := rd2_some h
    refine ⟨_, _, hk, fun n next Q a ha hn => wpIn_value (by simp [hop]) ?_ hn⟩
    simp only [execOp, hop, ha]
    rw [Sem.run_bind, binG_run hv]; rfl
  case unOp op t x =>
    obtain ⟨v, hv, hk⟩ := rd_some h
    refine ⟨_, _, hk, fun n next Q a ha hn => wpIn_value (by simp [hop]) ?_ hn⟩
    simp only [execOp, hop, ha]
    rw [Sem.run_bind, un_run hv]; rfl
  case convert s d x =>
    obtain ⟨v, w', hv, hk⟩ := rd2_some h
    refine ⟨_, _, hk, fun n next Q a ha hn => wpIn_value (by simp [hop]) ?_ hn⟩
    simp only [execOp, hop, ha]
    rw [Sem.run_bind, cvG_run hv]; rfl
  case fieldAddr s x f =>
    obtain ⟨v, hv, hk⟩ := rd_some h
    refine ⟨_, _, hk, fun n next Q a ha hn => wpIn_value (by simp [hop]) ?_ hn⟩
    simp only [execOp, hop, ha]
    rw [Sem.run_bind, fldA_run hv]; rfl
  case field s x f =>
    obtain ⟨v, hv, hk⟩ := rd_some h
    refine ⟨_, _, hk, fun n next Q a ha hn => wpIn_value (by simp [hop]) ?_ hn⟩
    simp only [execOp, hop, ha]
    rw [Sem.run_bind, fld_run hv]; rfl
  case indexAddr t x i =>
    obtain ⟨v, hv, hk⟩ := rd_some h
    refine ⟨_, _, hk, fun n next Q a ha hn => wpIn_value (by simp [hop]) ?_ hn⟩
    simp only [execOp, hop, ha]
    rw [Sem.run_bind, ixA_run hv]; rfl
  case index t x i =>
    obtain ⟨v, hv, hk⟩ := rd_some h
    refine ⟨_, _, hk, fun n next Q a ha hn => wpIn_value (by simp [hop]) ?_ hn⟩
    simp only [execOp, hop, ha]
    rw [Sem.run_bind, ix_run hv]; rfl
  case slice t x lo hi mx =>
    obtain ⟨v, hv, hk⟩ := rd_some h
    refine ⟨_, _, hk, fun n next Q a ha hn => wpIn_value (by simp [hop]) ?_ hn⟩
    simp only [execOp, hop, ha]
    simp only [optV_eq] at hv
    rw [Sem.run_bind, sl_run hv]; rfl
  case extract x i =>
    obtain ⟨v, hv, hk⟩ := rd_some h
    refine ⟨_, _, hk, fun n next Q a ha hn => wpIn_value (by simp [hop]) ?_ hn⟩
    simp only [execOp, hop, ha]
    rw [Sem.run_bind, ext_run hv]; rfl
  case build t ps =>
    obtain ⟨v, hv, hk⟩ := rd_some h
    refine ⟨_, _, hk, fun n next Q a ha hn => wpIn_value (by simp [hop]) ?_ hn⟩
    simp only [execOp, hop, ha]
    rw [mapP_eq] at hv
    rw [Sem.run_bind, arr_map, bld_run hv]; rfl
  case makeFunc fn f c =>
    refine ⟨_, _, h, fun n next Q a ha hn => wpIn_value (by simp [hop]) ?_ hn⟩
    simp only [execOp, hop, ha]
    rw [Sem.run_bind, arr_map, arr_map, mapO_eq, mapO_eq]; rfl
  case load t x =>
    obtain ⟨v, hv, hk⟩ := rd_some h
    refine ⟨_, _, hk, fun n next Q a ha hn => wpIn_value (by simp [hop]) ?_ hn⟩
    simp only [execOp, hop, ha]
    rw [Sem.run_bind, ld_run hv]; rfl
  case store t x y =>
    obtain ⟨v, w', hv, hk⟩ := rd2_some h
    obtain ⟨rfl, hv'⟩ := rawU_run hv
    refine ⟨_, _, hk, fun n next Q a ha hn => wpIn_unit (by simp [hop]) ?_ hn⟩
    simp only [execOp, hop, ha]
    rw [Sem.run_bind, hv']; rfl
  case mapUpdate t m k x =>
    obtain ⟨v, w', hv, hk⟩ := rd2_some h
    obtain ⟨rfl, hv'⟩ := rawU_run hv
    refine ⟨_, _, hk, fun n next Q a ha hn => wpIn_unit (by simp [hop]) ?_ hn⟩
    simp only [execOp, hop, ha]
    rw [Sem.run_bind, hv']; rfl
  case insert t m k x =>
    obtain ⟨v, w', hv, hk⟩ := rd2_some h
    obtain ⟨rfl, hv'⟩ := rawU_run hv
    refine ⟨_, _, hk, fun n next Q a ha hn => wpIn_unit (by simp [hop]) ?_ hn⟩
    simp only [execOp, hop, ha]
    rw [Sem.run_bind, hv']; rfl
  case entryStore t m s x =>
    obtain ⟨v, w', hv, hk⟩ := rd2_some h
    obtain ⟨rfl, hv'⟩ := rawU_run hv
    refine ⟨_, _, hk, fun n next Q a ha hn => wpIn_unit (by simp [hop]) ?_ hn⟩
    simp only [execOp, hop, ha]
    rw [Sem.run_bind, hv']; rfl
  case buildSlice t k ps =>
    obtain ⟨v, w', hv, hk⟩ := rd2_some h
    refine ⟨_, _, hk, fun n next Q a ha hn => wpIn_value (by simp [hop]) ?_ hn⟩
    simp only [execOp, hop, ha]
    rw [mapP_eq] at hv
    rw [Sem.run_bind, arr_map, rawV_run hv]; rfl
  case makeMap t x =>
    obtain ⟨v, w', hv, hk⟩ := rd2_some h
    refine ⟨_, _, hk, fun n next Q a ha hn => wpIn_value (by simp [hop]) ?_ hn⟩
    simp only [execOp, hop, ha]
    rw [optV_eq] at hv
    rw [Sem.run_bind, rawV_run hv]; rfl
  case lookup t x i ok =>
    obtain ⟨v, w', hv, hk⟩ := rd2_some h
    refine ⟨_, _, hk, fun n next Q a ha hn => wpIn_value (by simp [hop]) ?_ hn⟩
    simp only [execOp, hop, ha]
    rw [Sem.run_bind, lkG_run hv]; rfl
  case call c =>
    have hres : ∀ f, c.callee = .value f → ∀ a : Act, a.eval = rho C.N e → ∀ (d : Deferred) (w : World), (Deferred.ofValue (rho C.N e f) (mapO (rho C.N e) c.args.toList).toArray).run C.P w = .ok d w →
        ∀ r, (invoke d.target d.args).run C.P w = r → (execOp a.eval o).run C.P w = r := by
      intro f hf a ha d w hd r hr
      have h1 : (resolve a.eval c o.type).run C.P w = .ok d w := by
        simp only [resolve, hf, ha]
        rw [arr_map, ← mapO_eq]; exact hd
      simp only [execOp, hop]
      rw [Sem.run_bind, h1]
      exact hr
    cases hcal : c.callee <;> rw [hcal] at h <;> dsimp only at h
    case value f =>
      obtain ⟨v, w', hv, hk⟩ := rd2_some h
      obtain ⟨d, hd, hr⟩ := callV_run hC hv
      refine ⟨_, _, hk, fun n next Q a ha hn => ?_⟩
      rcases hr with hr | ⟨f', as, hr, hc⟩ | ⟨l, f', t, x, y, hr, hc⟩
      · exact wpIn_value (by simp [hop]) (hres f hcal a ha d w hd _ hr) hn
      · exact wpIn_enter (by simp [hop]) (hres f hcal a ha d w hd _ hr) hc hn
      · exact wpIn_round (by simp [hop]) (hres f hcal a ha d w hd _ hr) hc hn
    case invoke x m => cases h
    case builtin b =>
      obtain ⟨v, w', hv, hk⟩ := rd2_some h
      refine ⟨_, _, hk, fun n next Q a ha hn => wpIn_value (by simp [hop]) ?_ hn⟩
      have h1 : (resolve a.eval c o.type).run C.P w = .ok { target := .builtin b c.argTypes o.type (mapC c.args.toList).toArray, args := (mapO (rho C.N e) c.args.toList).toArray } w := by
        simp only [resolve, hcal, ha]
        rw [arr_map (rho C.N e), ← mapO_eq, arr_map, mapC_eq]
        rfl
      simp only [execOp, hop]
      rw [Sem.run_bind, h1]
      exact lenG_run hv
  case waits => cases h
  case ready => cases h
  case sliceToArrayPointer => cases h
  case makeChan => cases h
  case go => cases h
  case defer => cases h
  case panic => cases h
  case send => cases h
  case recv => cases h
  case select => cases h
  all_goals
    obtain ⟨v, w', hv, hk⟩ := rd2_some h
    refine ⟨_, _, hk, fun n next Q a ha hn => wpIn_value (by simp [hop]) ?_ hn⟩
    simp only [execOp, hop, ha]
    rw [Sem.run_bind, rawV_run hv]; rfl

end Go.Cb
