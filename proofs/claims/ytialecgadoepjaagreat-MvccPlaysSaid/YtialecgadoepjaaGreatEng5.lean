/-
  Sound: regions, code, rounds, functions.
-/
import Derived.Test.YtialecgadoepjaaGreatEng4
import Derived.Test.YtialecgadoepjaaGreatEngD
import Derived.RangeFuncLeaves
namespace Go.Cb

def Goes (C : Ctx) (c : Code) (e : Env) (w : World) (x : Exit) (e' : Env) (w' : World) : Prop :=
  ∀ (b : Frame) (k : List Item) (cs : List Frame), b.roundOf = C.ro → b.fn = C.f →
    ArrivesIn (Machine.fenced C.P Fence.wide) C.P (lone (b.atR (actE C.N e) (.code c :: k)) cs w) b k cs x (actE C.N e') w'

theorem Goes.seq {C : Ctx} {a b : Code} {e e1 e2 : Env} {w w1 w2 : World} {x : Exit} (h1 : Goes C a e w .normal e1 w1) (h2 : Goes C b e1 w1 x e2 w2) : Goes C (.seq a b) e w x e2 w2 :=
  fun f k cs hr hf => .of_steps (.head (fenced_wide _ _) stepR_seq (h1 f (.code b :: k) cs hr hf)) (h2 f k cs hr hf)
theorem Goes.seq' {C : Ctx} {a b : Code} {e e1 : Env} {w w1 : World} {x : Exit} (h1 : Goes C a e w x e1 w1) (hx : x ≠ .normal) : Goes C (.seq a b) e w x e1 w1 :=
  fun f k cs hr hf => .of_steps (.one (fenced_wide _ _) stepR_seq) (.pass (x := .code b) rfl (fun _ _ => .inl hx) (h1 f (.code b :: k) cs hr hf))

theorem Goes.block {C : Ctx} {id : Nat} {c : Code} {e e1 : Env} {w w1 : World} {x : Exit} (h : Goes C c e w x e1 w1) :
    (x = .normal ∨ x = .exit id → Goes C (.block id c) e w .normal e1 w1) ∧ (x ≠ .normal → x ≠ .exit id → Goes C (.block id c) e w x e1 w1) := by
  constructor
  · intro hx f k cs hr hf
    have hh := h f (.inBlock id :: k) cs hr hf
    rcases hx with rfl | rfl
    · exact .head (fenced_wide _ _) stepR_block (StepsIn.trans hh (.one (fenced_wide _ _) stepR_inBlock))
    · exact .head (fenced_wide _ _) stepR_block (hh.1 k (by simp [exitTo]))
  · intro hx hx' f k cs hr hf
    have hh := h f (.inBlock id :: k) cs hr hf
    cases x with
    | normal => exact absurd rfl hx
    | exit j =>
      have hne : (id == j) = false := by
        simp only [beq_eq_false_iff_ne, ne_eq]; rintro rfl; exact hx' rfl
      have he : exitTo j (.inBlock id :: k) = exitTo j k := by simp [exitTo, hne]
      exact ⟨fun k' hk => .head (fenced_wide _ _) stepR_block (hh.1 k' (by rw [he]; exact hk)),
        fun hr' hk => let ⟨k₁, h1, h2⟩ := hh.2 hr' (by rw [he]; exact hk); ⟨k₁, h1, .head (fenced_wide _ _) stepR_block h2⟩⟩
    | goto l =>
      have he : gotoIn l (.inBlock id :: k) = gotoIn l k := by simp [gotoIn]
      exact ⟨fun k' hk => .head (fenced_wide _ _) stepR_block (hh.1 k' (by rw [he]; exact hk)),
        fun hr' hk => let ⟨k₁, h1, h2⟩ := hh.2 hr' (by rw [he]; exact hk); ⟨k₁, h1, .head (fenced_wide _ _) stepR_block h2⟩⟩
    | ret => exact .of_steps (.one (fenced_wide _ _) stepR_block) hh
    | panic ch => exact .of_steps (.one (fenced_wide _ _) stepR_block) hh
    | outgrown => exact .of_steps (b := f) (k := k) (cs := cs) (e := .outgrown) (.one (fenced_wide _ _) stepR_block) hh

theorem stepR_scope {P : Program} {b : Frame} {a : Act} {k : List Item} {cs : List Frame} {w : World} {c : Code} :
    step P (lone (b.atR a (.code (.scope c) :: k)) cs w) = .next (lone (b.atR a (.code c :: .inScope c :: k)) cs w) :=
  step_lone_go (by simp [Go.stepG, Go.stepG.exec, Frame.atR])
theorem stepR_inScope {P : Program} {b : Frame} {a : Act} {k : List Item} {cs : List Frame} {w : World} {c : Code} :
    step P (lone (b.atR a (.inScope c :: k)) cs w) = .next (lone (b.atR a k) cs w) :=
  step_lone_go (by simp [Go.stepG, Go.stepG.exec, Frame.atR])
theorem Goes.scope {C : Ctx} {c : Code} {e e1 : Env} {w w1 : World} {x : Exit} (h : Goes C c e w x e1 w1) (hx : ∀ l, x ≠ .goto l) : Goes C (.scope c) e w x e1 w1 := by
  intro f k cs hr hf
  have hh := h f (.inScope c :: k) cs hr hf
  cases x with
  | normal => exact .head (fenced_wide _ _) stepR_scope (StepsIn.trans hh (.one (fenced_wide _ _) stepR_inScope))
  | exit j =>
    have he : exitTo j (.inScope c :: k) = exitTo j k := by simp [exitTo]
    exact ⟨fun k' hk => .head (fenced_wide _ _) stepR_scope (hh.1 k' (by rw [he]; exact hk)),
      fun hr' hk => let ⟨k₁, h1, h2⟩ := hh.2 hr' (by rw [he]; exact hk); ⟨k₁, h1, .head (fenced_wide _ _) stepR_scope h2⟩⟩
  | goto l => exact absurd rfl (hx l)
  | ret => exact .of_steps (.one (fenced_wide _ _) stepR_scope) hh
  | panic ch => exact .of_steps (.one (fenced_wide _ _) stepR_scope) hh
  | outgrown => exact .of_steps (b := f) (k := k) (cs := cs) (e := .outgrown) (.one (fenced_wide _ _) stepR_scope) hh

theorem Goes.cond {C : Ctx} {o : Operand} {x y : Code} {t : Bool} {e e1 : Env} {w w1 : World} {z : Exit} (ht : rho C.N e o = .bool t) (h : Goes C (if t then x else y) e w z e1 w1) :
    Goes C (.cond o x y) e w z e1 w1 :=
  fun f k cs hr hf => .of_steps (.one (fenced_wide _ _) (stepR_cond (by rw [eval_actE]; exact ht))) (h f k cs hr hf)

/-- code and what it comes to. -/
def SoundAt (C : Ctx) (c : Code) : Prop := ∀ (K : Exit → Env → World → R) (e : Env) (w : World) (r : Value × World), evalCode C c K e w = some r →
  ∃ x e' w', K x e' w' = some r ∧ Goes C c e w x e' w'

theorem sound_loop {C : Ctx} {c : Code} (hc : SoundAt C c) (K : Exit → Env → World → R) : ∀ (m : Nat) (e : Env) (w : World) (r : Value × World),
    iter (fun rec => evalCode C c (thenK rec K)) m e w = some r →
    ∃ x e' w', K x e' w' = some r ∧ x ≠ .normal ∧ ∀ (b : Frame) (k : List Item) (cs : List Frame), b.roundOf = C.ro → b.fn = C.f →
      ArrivesIn (Machine.fenced C.P Fence.wide) C.P (lone (b.atR (actE C.N e) (.code c :: .inLoop c :: k)) cs w) b k cs x (actE C.N e') w' := by
  intro m
  induction m with
  | zero => intro e w r h; cases h
  | succ m ih =>
    intro e w r h
    obtain ⟨x, e1, w1, hk, hg⟩ := hc _ _ _ _ h
    by_cases hx : x = .normal
    · subst hx
      obtain ⟨y, e2, w2, hk2, hy, hg2⟩ := ih _ _ _ hk
      refine ⟨y, e2, w2, hk2, hy, fun b k cs hr hf => ?_⟩
      exact .of_steps (StepsIn.trans (hg b (.inLoop c :: k) cs hr hf) (.one (fenced_wide _ _) stepR_inLoop)) (hg2 b k cs hr hf)
    · have hk' : K x e1 w1 = some r := by cases x <;> first | exact absurd rfl hx | exact hk
      exact ⟨x, e1, w1, hk', hx, fun b k cs hr hf => .pass (x := .inLoop c) rfl (fun _ _ => .inl hx) (hg b (.inLoop c :: k) cs hr hf)⟩

theorem wpOps_goes {C : Ctx} {ops : Array Oper} {l : List Nat} {e e' : Env} {w w' : World}
    (h : wpOpsIn (Fw C.ro) 0 C.P ops (fun x a u => x = .normal ∧ a = actE C.N e' ∧ u = w') l (actE C.N e) w) (b : Frame) (k : List Item) (cs : List Frame) (hr : b.roundOf = C.ro) :
    StepsIn (Machine.fenced C.P Fence.wide) C.P (lone (b.atR (actE C.N e) (.inRegion ops l :: k)) cs w) (lone (b.atR (actE C.N e') k) cs w') := by
  obtain ⟨x, a, u, ⟨rfl, rfl, rfl⟩, harr⟩ := wp_opsIn l _ _ h b k cs hr trivial (room_Fw _ _)
  exact harr

theorem ops_sound {C : Ctx} (hC : SoundC C) {st : Bool} {ops : Array Oper} : ∀ (l : List Oper) (j : Nat) (e : Env) (w : World) (K : Env → World → R) (r : Value × World),
    (∀ i, l[i]? = ops[j + i]?) → evalOps C st ops l e w K = some r →
    ∃ e' w', K e' w' = some r ∧ e' C.N = e C.N ∧ wpOpsIn (Fw C.ro) 0 C.P ops (fun x a u => x = .normal ∧ a = actE C.N e' ∧ u = w') (List.range' j l.length) (actE C.N e) w := by
  intro l
  induction l with
  | nil => intro j e w K r _ h; exact ⟨e, w, h, rfl, rfl, rfl, rfl⟩
  | cons o l ih =>
    intro j e w K r hl h
    obtain ⟨v, w1, hk, hs⟩ := opG_sound hC h
    obtain ⟨e', w', hk', hN, hw⟩ := ih (j + 1) (putE C.N e o.dst v) w1 K r (fun i => by have := hl (i + 1); rw [List.getElem?_cons_succ] at this; rw [this]; congr 1; omega) hk
    refine ⟨e', w', hk', by rw [hN, putE_N], ?_⟩
    have ho : ops[j]? = some o := by have := hl 0; simpa using this.symm
    rw [List.length_cons, List.range'_succ]
    exact hs 0 _ j _ ho (by rw [put_actE]; exact hw)

theorem region_goes {C : Ctx} {id : Nat} {ops : Array Oper} {e e' : Env} {w w' : World}
    (h : wpOpsIn (Fw C.ro) 0 C.P ops (fun x a u => x = .normal ∧ a = actE C.N e' ∧ u = w') (List.range' 0 ops.toList.length) (actE C.N e) w) : Goes C (.region id ops false) e w .normal e' w' :=
  fun b k cs hr _ => StepsIn.head (fenced_wide _ _) stepR_region (by
    have := wpOps_goes h b k cs hr
    rwa [← List.range_eq_range'] at this)

theorem endL_sound {C : Ctx} {l : Nat} {K : Exit → Env → World → R} {e : Env} {w : World} {r : Value × World} (h : endL l K e w = some r) :
    ∃ x w', K x e w' = some r ∧ ∃ jump, (Instr.endLoop l).run C.P w = .ok jump w' ∧ ((x = .normal ∧ jump = none) ∨ (x = .ret ∧ jump = some .ret) ∨ ∃ id, x = .exit id ∧ jump = some (.exit id)) := by
  unfold endL at h
  split at h
  · rename_i rr hr
    have hrun : ∀ (hb : rr.state ≠ .busy), (Instr.endLoop l).run C.P w = .ok rr.pending (World.putObj w l (.loop { rr with state := .exhausted })) := by
      intro hb
      have hg : (getObj l).run C.P w = .ok (.loop rr) w := by simp [getObj, Sem.run, hr]
      have hs : ∀ o, (setObj l o).run C.P w = .ok () (World.putObj w l o) := by intro o; simp [setObj, Sem.run, hr, World.putObj]
      have hb' : rr.state = LoopState.busy → False := hb
      simp only [Instr.endLoop, Instr.getLoop, Sem.run_bind, hg, Result.andThen_ok, Sem.run_pure]
      rw [if_neg (by simpa using hb)]
      simp [hs]
    split at h
    · cases h
    · rename_i hb
      split at h
      · rename_i hp; exact ⟨.normal, _, h, _, by rw [hrun hb, hp], .inl ⟨rfl, rfl⟩⟩
      · rename_i hp; exact ⟨.ret, _, h, _, by rw [hrun hb, hp], .inr (.inl ⟨rfl, rfl⟩)⟩
      · rename_i id hp; exact ⟨.exit id, _, h, _, by rw [hrun hb, hp], .inr (.inr ⟨id, rfl, rfl⟩)⟩
      · cases h
  · cases h

theorem jump_goes {C : Ctx} {x : Exit} {jump : Option Code} (hx : (x = .normal ∧ jump = none) ∨ (x = .ret ∧ jump = some .ret) ∨ ∃ id, x = .exit id ∧ jump = some (.exit id)) (e : Env) (w : World)
    (b : Frame) (k : List Item) (cs : List Frame) : ArrivesIn (Machine.fenced C.P Fence.wide) C.P (lone (b.atR (actE C.N e) ((jump.map Item.code).toList ++ k)) cs w) b k cs x (actE C.N e) w := by
  rcases hx with ⟨rfl, rfl⟩ | ⟨rfl, rfl⟩ | ⟨id, rfl, rfl⟩
  · exact .refl _
  · exact ⟨fun hn => ⟨_, .one (fenced_wide _ _) (stepR_ret hn)⟩, fun _ => ⟨k, .refl _⟩⟩
  · exact ⟨fun k' hk => .one (fenced_wide _ _) (stepR_exit hk), fun _ hk => ⟨k, hk, .refl _⟩⟩

/-- the call that a range over a function makes, and what comes behind it. -/
theorem range_steps {C : Ctx} (hC : SoundC C) {g : Operand} {ps : Array Tmp} {assign body : Code} {e e1 : Env} {w w1 w2 : World} {l : Nat} {mark : List Deferred} {v : Value} {f : FuncId} {first cap : Array Value}
    (hg : rho C.N e g = .func (.func f) first cap) (hb : bodied C.P f = true)
    (hf : (Instr.enterLoop C.f (tab C.N e) ps assign body C.ro).run C.P w = .ok (l, mark) w1) (hm : mark ++ dsOf (e C.N) = dsOf (e1 C.N)) (ht : tab C.N e1 = tab C.N e)
    (hcall : callV C (.func (.func f) first cap) [.func (.yield l) #[] #[]] w1 = some (v, w2)) (b : Frame) (k : List Item) (cs : List Frame) (hr : b.roundOf = C.ro) (hfn : b.fn = C.f) :
    StepsIn (Machine.fenced C.P Fence.wide) C.P (lone (b.atR (actE C.N e) (.code (.rangeFunc g ps assign body) :: k)) cs w) (lone (b.atR (actE C.N e1) (.endRangeFunc l :: k)) cs w2) := by
  have hc := hC.fn _ _ _ _ _ hcall
  have ha : (first.toList ++ ([Value.func (.yield l) #[] #[]] ++ cap.toList)).toArray = first ++ #[Value.func (.yield l) #[] #[]] ++ cap := by simp
  rcases hc with hc | ⟨hc, hcl⟩
  · exact absurd hc (by unfold bodied at hb; intro hc; exact bodied_not hb hc)
  · have he : (Instr.enterLoop b.fn (actE C.N e).tmps ps assign body b.roundOf).run C.P w = .ok (l, mark) w1 := by rw [hfn, hr]; exact hf
    have hres : (resolve (actE C.N e).eval (rangeCall g l) 0).run C.P w1 = .ok { target := .fn (.func f) cap, args := first ++ #[Value.func (.yield l) #[] #[]] } w1 := by
      rw [eval_actE]
      simp only [resolve, hg]
      rw [arr_map]
      rfl
    have hinv : (invoke (.fn (.func f) cap) (first ++ #[Value.func (.yield l) #[] #[]])).run C.P w1 = .ok (.enter f (first ++ #[Value.func (.yield l) #[] #[]] ++ cap)) w1 := by
      simp only [invoke]; rw [← ha]; exact hc
    have henter := stepR_rangeFunc (P := C.P) (b := b) (a := actE C.N e) (k := k) (cs := cs) (w := w) he hres hinv
    have hact : ({ actE C.N e with defers := mark ++ (actE C.N e).defers } : Act) = actE C.N e1 := by
      simp only [actE, hm, ht]
    rw [hact] at henter
    obtain ⟨en, w3, fr, ⟨rfl, rfl⟩, hsteps, hfn', hleave⟩ := hcl (b.atR (actE C.N e1) (.inRangeFunc l :: k) :: cs)
    rw [ha] at hsteps
    refine .head (fenced_wide _ _) henter (StepsIn.trans (stepsIn_wide.2 hsteps) (.one (fenced_wide _ _) ?_))
    rw [← finish_atR_inRangeFunc l v]; exact step_leave_returned hleave

theorem range_sound {C : Ctx} (hC : SoundC C) {g : Operand} {ps : Array Tmp} {assign body : Code} {K : Exit → Env → World → R} {e : Env} {w : World} {r : Value × World}
    (h : rngR C (rho C.N e g) ps assign body K e w = some r) : ∃ x e' w', K x e' w' = some r ∧ Goes C (.rangeFunc g ps assign body) e w x e' w' := by
  unfold rngR at h
  split at h
  · rename_i f first cap hg
    cases hb : bodied C.P f with
    | false => rw [hb] at h; cases h
    | true =>
    rw [hb] at h
    simp only [cond_true] at h
    cases hro : C.ro with
    | none =>
      simp only [hro] at h
      cases hu : unset (e C.N) with
      | false => rw [hu] at h; cases h
      | true =>
        rw [hu] at h
        simp only [cond_true] at h
        obtain ⟨v, w2, hcall, h⟩ := rd2_some h
        obtain ⟨x, w', hk, jump, hrun, hx⟩ := endL_sound (C := C) h
        refine ⟨x, _, w', hk, fun b k cs hr hfn => ?_⟩
        have hds : dsOf (e C.N) = [] := by
          unfold unset at hu; unfold dsOf
          split at hu
          · rename_i he; rw [he]
          · cases hu
        have hsteps := range_steps hC (ps := ps) (assign := assign) (body := body) (e1 := upd e C.N (.map (some w.heap.size))) (w := w) (mark := [{ target := .collected w.heap.size, args := #[] }]) hg hb
          (w1 := World.push (World.push w (.deferred (some []))) (newLoop C.f (tab C.N e) ps assign body w.heap.size)) (l := w.heap.size + 1)
          (by rw [hro]; simp [Instr.enterLoop, newObj, Sem.run, World.push, newLoop]) (by rw [hds]; simp [upd, dsOf]) (by rw [tab_upd_N]) hcall b k cs hr hfn
        exact .of_steps (StepsIn.trans hsteps (.one (fenced_wide _ _) (stepR_endRangeFunc hrun))) (jump_goes hx _ _ b k cs)
    | some l0 =>
      simp only [hro] at h
      split at h
      · rename_i r0 hr0
        obtain ⟨v, w2, hcall, h⟩ := rd2_some h
        obtain ⟨x, w', hk, jump, hrun, hx⟩ := endL_sound (C := C) h
        refine ⟨x, _, w', hk, fun b k cs hr hfn => ?_⟩
        have hsteps := range_steps hC (ps := ps) (assign := assign) (body := body) (w := w) (e1 := e) (mark := []) hg hb
          (w1 := World.push w (newLoop C.f (tab C.N e) ps assign body r0.defers)) (l := w.heap.size)
          (by
            have hg0 : (getObj l0).run C.P w = .ok (.loop r0) w := by simp [getObj, Sem.run, hr0]
            rw [hro]; simp [Instr.enterLoop, Instr.getLoop, hg0, newObj, Sem.run, World.push, newLoop]) rfl rfl hcall b k cs hr hfn
        exact .of_steps (StepsIn.trans hsteps (.one (fenced_wide _ _) (stepR_endRangeFunc hrun))) (jump_goes hx _ _ b k cs)
      · cases h
  · cases h

theorem code_sound {C : Ctx} (hC : SoundC C) : ∀ c : Code, SoundAt C c
  | .skip => fun K e w r h => ⟨.normal, e, w, h, fun b k cs _ _ => .one (fenced_wide _ _) stepR_skip⟩
  | .label _ => fun K e w r h => ⟨.normal, e, w, h, fun b k cs _ _ => .one (fenced_wide _ _) stepR_label⟩
  | .exit id => fun K e w r h => ⟨.exit id, e, w, h, fun b k cs _ _ => ⟨fun _ hk => .one (fenced_wide _ _) (stepR_exit hk), fun _ hk => ⟨k, hk, .refl _⟩⟩⟩
  | .ret => fun K e w r h => ⟨.ret, e, w, h, fun b k cs _ _ => ⟨fun hn => ⟨_, .one (fenced_wide _ _) (stepR_ret hn)⟩, fun _ => ⟨k, .refl _⟩⟩⟩
  | .goto _ => fun K e w r h => by unfold evalCode at h; cases h
  | .refuse _ => fun K e w r h => by unfold evalCode at h; cases h
  | .rangeFunc g ps assign body => fun K e w r h => by
    unfold evalCode at h
    exact range_sound hC h
  | .region id ops draw => fun K e w r h => by
    unfold evalCode at h
    cases draw with
    | false =>
      obtain ⟨e', w', hk, _, hw⟩ := ops_sound hC ops.toList 0 e w _ r (fun i => by simp) h
      exact ⟨.normal, e', w', hk, region_goes hw⟩
    | true =>
      simp only [cond_true] at h
      cases hm : (C.P.follows .mixedOrders && regOk ops) with
      | false => rw [hm] at h; cases h
      | true =>
        rw [hm] at h
        simp only [cond_true] at h
        simp only [Bool.and_eq_true] at hm
        obtain ⟨e', w', hk, hw⟩ := draw_sound hC hm.2 h
        refine ⟨.normal, e', w', hk, fun b k cs hr hf => .head (fenced_wide _ _) stepR_region_draw ?_⟩
        rw [hm.1, hf]
        exact wpOps_goes hw b k cs hr
  | .seq a b => fun K e w r h => by
    unfold evalCode at h
    obtain ⟨x, e1, w1, hk, hg⟩ := code_sound hC a _ _ _ _ h
    by_cases hx : x = .normal
    · subst hx
      obtain ⟨y, e2, w2, hk2, hg2⟩ := code_sound hC b _ _ _ _ hk
      exact ⟨y, e2, w2, hk2, hg.seq hg2⟩
    · have hk' : K x e1 w1 = some r := by cases x <;> first | exact absurd rfl hx | exact hk
      exact ⟨x, e1, w1, hk', hg.seq' hx⟩
  | .cond o a b => fun K e w r h => by
    unfold evalCode cnd at h
    split at h
    · rename_i t ht
      cases t with
      | true =>
        obtain ⟨x, e1, w1, hk, hg⟩ := code_sound hC a _ _ _ _ h
        exact ⟨x, e1, w1, hk, Goes.cond ht hg⟩
      | false =>
        obtain ⟨x, e1, w1, hk, hg⟩ := code_sound hC b _ _ _ _ h
        exact ⟨x, e1, w1, hk, Goes.cond ht hg⟩
    · cases h
  | .block id c => fun K e w r h => by
    unfold evalCode at h
    obtain ⟨x, e1, w1, hk, hg⟩ := code_sound hC c _ _ _ _ h
    cases x with
    | normal => exact ⟨.normal, e1, w1, hk, hg.block.1 (.inl rfl)⟩
    | exit j =>
      simp only [blkK] at hk
      by_cases hj : j = id
      · subst hj
        rw [Nat.beq_refl j] at hk
        exact ⟨.normal, e1, w1, hk, hg.block.1 (.inr rfl)⟩
      · rw [beq_f hj] at hk
        exact ⟨.exit j, e1, w1, hk, hg.block.2 (by simp) (by simpa using hj)⟩
    | goto l => exact ⟨.goto l, e1, w1, hk, hg.block.2 (by simp) (by simp)⟩
    | ret => exact ⟨.ret, e1, w1, hk, hg.block.2 (by simp) (by simp)⟩
    | panic ch => exact ⟨.panic ch, e1, w1, hk, hg.block.2 (by simp) (by simp)⟩
    | outgrown => exact ⟨.outgrown, e1, w1, hk, hg.block.2 (by simp) (by simp)⟩
  | .scope c => fun K e w r h => by
    unfold evalCode at h
    obtain ⟨x, e1, w1, hk, hg⟩ := code_sound hC c _ _ _ _ h
    have hx : ∀ l, x ≠ .goto l := by rintro l rfl; cases hk
    have hk' : K x e1 w1 = some r := by cases x <;> first | exact absurd rfl (hx _) | exact hk
    exact ⟨x, e1, w1, hk', hg.scope hx⟩
  | .loop c => fun K e w r h => by
    unfold evalCode at h
    have hlim := lim_limR (g := fun n => iter (fun rec => evalCode C c (thenK rec K)) n e w) fun m v hv => iter_mono C c K m e w v hv
    obtain ⟨m, hm⟩ := (hlim.2 r).1 h
    obtain ⟨x, e1, w1, hk, hx, hg⟩ := sound_loop (code_sound hC c) K m e w r hm
    exact ⟨x, e1, w1, hk, fun b k cs hr hf => .of_steps (.one (fenced_wide _ _) stepR_loop) (hg b k cs hr hf)⟩

/-! ### Functions and rounds -/

def resFn (tmps : Array Value) : ResultVar → Sem Value := fun
  | .tmp t => pure (tmps.getD t undef)
  | .cell a t => do loadVar t (← asAddr (tmps.getD a undef))
theorem results_eq (fn : Func) (tmps : Array Value) : results fn tmps = (do
    let vs ← fn.results.mapM (resFn tmps)
    pure (if h : vs.size = 1 then vs[0] else .tuple vs)) := rfl

theorem res_sound {P : Program} {N : Nat} {e : Env} {w : World} {a : Act} (ha : ∀ x, a.eval x = rho N e x) : ∀ (l : List ResultVar) (acc : List Value) (K : List Value → R) (r : Value × World), resK P N e w l acc K = some r →
    ∃ vs, K (acc ++ vs) = some r ∧ (l.mapM (resFn a.tmps)).run P w = .ok vs w := by
  intro l
  induction l with
  | nil => intro acc K r h; exact ⟨[], by simpa [resK] using h, rfl⟩
  | cons x l ih =>
    intro acc K r h
    cases x with
    | tmp t =>
      obtain ⟨vs, hk, hm⟩ := ih _ _ _ h
      refine ⟨rho N e (.tmp t) :: vs, by simpa using hk, ?_⟩
      have ht : a.tmps.getD t undef = rho N e (.tmp t) := ha (.tmp t)
      rw [List.mapM_cons, Sem.run_bind]
      simp only [resFn, Sem.run_pure, Result.andThen_ok]
      rw [Sem.run_bind, hm, ht]
      rfl
    | cell c t =>
      obtain ⟨v, hv, h⟩ := rd_some h
      obtain ⟨vs, hk, hm⟩ := ih _ _ _ h
      refine ⟨v :: vs, by simpa using hk, ?_⟩
      have ht : a.tmps.getD c undef = rho N e (.tmp c) := ha (.tmp c)
      have hl : (do loadVar t (← asAddr (rho N e (.tmp c))) : Sem Value).run P w = .ok v w := by
        have h1 := ld_run hv
        unfold ldV at hv
        split at hv
        · rename_i ad hx
          rw [hx] at h1 ⊢
          exact h1
        · cases hv
      rw [List.mapM_cons, Sem.run_bind]
      simp only [resFn, ht]
      rw [hl, Result.andThen_ok, Sem.run_bind, hm]
      rfl

theorem endF_sound {P : Program} {fn : Func} {e : Env} {w w' : World} {v : Value} (h : endF P fn e w = some (v, w')) :
    ((dsOf (e fn.ntmps) = [] ∧ w' = w) ∨ ∃ D, dsOf (e fn.ntmps) = [{ target := .collected D, args := #[] }] ∧ (Instr.takeDeferred D).run P w = .ok [] w') ∧
    (results fn (actE fn.ntmps e).tmps).run P w' = .ok v w' := by
  have key : ∀ u, (resK P fn.ntmps e u fn.results.toList [] fun l => some (oneV l, u)) = some (v, w') → w' = u ∧ (results fn (actE fn.ntmps e).tmps).run P u = .ok v u := by
    intro u hu
    obtain ⟨vs, hk, hm⟩ := res_sound (a := actE fn.ntmps e) (fun x => by rw [eval_actE]) _ _ _ _ hu
    injection hk with hk; injection hk with h1 h2
    refine ⟨h2.symm, ?_⟩
    rw [results_eq, Array.mapM_eq_mapM_toList, Sem.run_bind, Sem.run_map, hm]
    simp only [Result.andThen_ok, Sem.run_pure]
    rw [← h1]
    congr 1
    match vs with
    | [] => rfl
    | [x] => rfl
    | x :: y :: r => simp [oneV]
  unfold endF shutK at h
  split at h
  · rename_i D hD
    split at h
    · rename_i hh
      obtain ⟨rfl, hr⟩ := key _ h
      refine ⟨.inr ⟨D, by rw [hD]; rfl, ?_⟩, hr⟩
      have hg : (getObj D).run P w = .ok (.deferred (some [])) w := by simp [getObj, Sem.run, hh]
      have hs : ∀ o, (setObj D o).run P w = .ok () (World.putObj w D o) := by intro o; simp [setObj, Sem.run, hh, World.putObj]
      simp [Instr.takeDeferred, hg, hs]
    · cases h
  · rename_i hne
    obtain ⟨rfl, hr⟩ := key _ h
    refine ⟨.inl ⟨?_, rfl⟩, hr⟩
    unfold dsOf
    split
    · rename_i D hD; exact absurd hD (hne D)
    · rfl

theorem leave_steps {P : Program} {f : FuncId} {g : Func} {e : Env} {w w' : World} {v : Value} {b : Frame} {todo : List Item} {cs : List Frame} (hf : P.funcs[f]? = some g) (hb : b.fn = f) (hk : b.kind = .normal)
    (h : endF P g e w = some (v, w')) :
    ∃ fr, StepsIn (Machine.fenced P Fence.wide) P (lone { b.atR (actE g.ntmps e) todo with mode := .returning } cs w) (lone fr cs w') ∧ fr.fn = f ∧ fr.leaving P w' (.returned v) := by
  obtain ⟨hd, hres⟩ := endF_sound h
  rcases hd with ⟨hds, rfl⟩ | ⟨D, hds, htake⟩
  · exact ⟨_, .refl _, hb, rfl, hds, hk, g, by rw [← hf, ← hb]; rfl, hres⟩
  · have h1 := step_collected (P := P) (fr := { b.atR (actE g.ntmps e) todo with mode := .returning }) (cs := cs) (w := w) (w' := w') (d := { target := .collected D, args := #[] }) (r := D) (ds := []) (calls := [])
      (by simp) hds rfl htake
    exact ⟨_, .one (fenced_wide _ _) h1, hb, rfl, rfl, hk, g, by rw [← hf, ← hb]; rfl, hres⟩

theorem fnS_sound {P : Program} {fn : FnT} {rnd : RndT} (hfn : ∀ f args w v w', fn f args w = some (v, w') → CallOk P f args w v w') (hrnd : ∀ l f t a b w v w', rnd l f t a b w = some (v, w') → RoundOk P l f t a b w v w')
    {f : FuncId} {args : List Value} {w w' : World} {v : Value} (h : fnS P fn rnd f args w = some (v, w')) : CallOk P f args w v w' := by
  unfold fnS at h
  split at h
  · cases h
  · rename_i g hg
    split at h
    · rename_i c hc
      cases hnm : (g.name == "runtime.NumGoroutine") with
      | true => rw [hnm] at h; cases h
      | false =>
      rw [hnm] at h
      simp only [cond_false] at h
      cases hle : Nat.ble args.length g.ntmps with
      | false => rw [hle] at h; cases h
      | true =>
        rw [hle] at h
        simp only [cond_true] at h
        have hle' : args.length ≤ g.ntmps := Nat.le_of_ble_eq_true hle
        right
        have hnm' : ¬ g.name = "runtime.NumGoroutine" := by simpa using hnm
        refine ⟨by simp [callFunc, hg, hnm', hc], fun cs => ?_⟩
        obtain ⟨x, e1, w1, hk, hgoes⟩ := code_sound (C := ⟨P, fn, rnd, f, none, g.ntmps⟩) ⟨hfn, hrnd⟩ c _ _ _ _ h
        let b : Frame := { (default : Frame) with fn := f, kind := .normal, roundOf := none }
        have henter : Frame.enter P f args.toArray .normal = b.atR (actE g.ntmps (envL args)) [.code c] := by
          have ht := tab_envL hle'
          have hd : dsOf (envL args g.ntmps) = [] := by
            have : envL args g.ntmps = undef := by simp [envL, List.getD, List.getElem?_eq_none hle']
            rw [this]; rfl
          simp [Frame.enter, Frame.atR, hg, hc, b, actE, ht, hd]
        have harr := hgoes b [] cs rfl rfl
        rw [← henter] at harr
        cases x with
        | normal =>
          obtain ⟨fr, hs, h1, h2⟩ := leave_steps (b := b) (todo := []) (cs := cs) hg rfl rfl hk
          exact ⟨.returned v, w', fr, ⟨rfl, rfl⟩, (StepsIn.trans harr (.head (fenced_wide _ _) (stepR_end rfl) hs)).steps, h1, h2⟩
        | ret =>
          obtain ⟨todo, hs0⟩ := harr.1 rfl
          obtain ⟨fr, hs, h1, h2⟩ := leave_steps (b := b) (todo := todo) (cs := cs) hg rfl rfl hk
          exact ⟨.returned v, w', fr, ⟨rfl, rfl⟩, (StepsIn.trans hs0 hs).steps, h1, h2⟩
        | exit id => cases hk
        | goto l => cases hk
        | panic ch => cases hk
        | outgrown => cases hk
    · left; exact rawN_run h

theorem rndS_sound {P : Program} {fn : FnT} {rnd : RndT} (hfn : ∀ f args w v w', fn f args w = some (v, w') → CallOk P f args w v w') (hrnd : ∀ l f t a b w v w', rnd l f t a b w = some (v, w') → RoundOk P l f t a b w v w')
    {l : Nat} {f : FuncId} {t : List Value} {assign body : Code} {w w' : World} {v : Value} (h : rndS P fn rnd l f t assign body w = some (v, w')) : RoundOk P l f t assign body w v w' := by
  unfold rndS evalRound at h
  refine ⟨trivial, fun c cs _ => ⟨.returned v, w', ⟨rfl, rfl⟩, ?_⟩⟩
  let C : Ctx := ⟨P, fn, rnd, f, some l, t.length⟩
  have hC : SoundC C := ⟨hfn, hrnd⟩
  let b : Frame := { (default : Frame) with fn := f, kind := .normal, roundOf := some l }
  have hb0 : Frame.round l f t.toArray assign body .normal = b.atR (actE C.N (envL t)) [.code assign, .beginRound, .code body] := by
    have ht := tab_envL (l := t) (Nat.le_refl _)
    have hd : dsOf (envL t t.length) = [] := by
      have : envL t t.length = undef := by simp [envL, List.getD]
      rw [this]; rfl
    simp at ht
    simp [Frame.round, Frame.atR, b, actE, C, ht, hd]
  obtain ⟨x, e1, w1, hk, hg⟩ := code_sound hC assign _ _ _ _ h
  cases x with
  | normal =>
    change begR l w1 _ = _ at hk
    unfold begR at hk
    split at hk
    · rename_i r hr
      split at hk
      · rename_i hst
        have hbeg : (Instr.beginRound l).run P w1 = .ok () (World.putObj w1 l (.loop { r with state := .busy })) := by
          have hg : (getObj l).run P w1 = .ok (.loop r) w1 := by simp [getObj, Sem.run, hr]
          have hs : ∀ o, (setObj l o).run P w1 = .ok () (World.putObj w1 l o) := by intro o; simp [setObj, Sem.run, hr, World.putObj]
          simp [Instr.beginRound, Instr.getLoop, hg, hs, hst]
        obtain ⟨y, e2, w2, hk2, hg2⟩ := code_sound hC body _ _ _ _ hk
        have s1 := hg b [.beginRound, .code body] (c :: cs) rfl rfl
        rw [← hb0] at s1
        have s2 : StepsIn (Machine.fenced P Fence.wide) P (lone (b.atR (actE C.N e1) [.beginRound, .code body]) (c :: cs) w1) (lone (b.atR (actE C.N e1) [.code body]) (c :: cs) (World.putObj w1 l (.loop { r with state := .busy }))) :=
          .one (fenced_wide _ _) (stepR_beginRound rfl hbeg)
        have s3 := hg2 b [] (c :: cs) rfl rfl
        have fin : ∀ jump, finR l jump w2 = some (v, w') → (Instr.endRound l jump).run P w2 = .ok v w' := by
          intro jump hf
          unfold finR at hf
          split at hf
          · rename_i r2 hr2
            injection hf with hf; injection hf with h1 h2; subst h1; subst h2
            have hg : (getObj l).run P w2 = .ok (.loop r2) w2 := by simp [getObj, Sem.run, hr2]
            have hs : ∀ o, (setObj l o).run P w2 = .ok () (World.putObj w2 l o) := by intro o; simp [setObj, Sem.run, hr2, World.putObj]
            simp [Instr.endRound, Instr.getLoop, hg, hs]
          · cases hf
        cases y with
        | normal => exact (StepsIn.trans s1 s2).trans (StepsIn.trans s3 (.one (fenced_wide _ _) (stepR_round_end rfl rfl (fin _ hk2))))
        | ret =>
          obtain ⟨k1, hs⟩ := s3.2 rfl
          exact (StepsIn.trans s1 s2).trans (StepsIn.trans hs (.one (fenced_wide _ _) (stepR_round_ret rfl rfl (fin _ hk2))))
        | exit id =>
          obtain ⟨k1, hk1, hs⟩ := s3.2 rfl rfl
          exact (StepsIn.trans s1 s2).trans (StepsIn.trans hs (.one (fenced_wide _ _) (stepR_round_exit rfl rfl hk1 (fin _ hk2))))
        | goto t => cases hk2
        | panic ch => cases hk2
        | outgrown => cases hk2
      · cases hk
    · cases hk
  | exit id => cases hk
  | goto t => cases hk
  | ret => cases hk
  | panic ch => cases hk
  | outgrown => cases hk

theorem stp_sound (P : Program) : ∀ n, (∀ f args w v w', (stp P n).1 f args w = some (v, w') → CallOk P f args w v w') ∧ (∀ l f t a b w v w', (stp P n).2 l f t a b w = some (v, w') → RoundOk P l f t a b w v w') := by
  intro n
  induction n with
  | zero => exact ⟨fun f args w v w' h => by simp [stp] at h, fun l f t a b w v w' h => by simp [stp] at h⟩
  | succ n ih => exact ⟨fun f args w v w' h => fnS_sound ih.1 ih.2 h, fun l f t a b w v w' h => rndS_sound ih.1 ih.2 h⟩

/-- THE EVALUATOR IS SOUND: what a call comes to is what the machine comes to. -/
theorem Fn_sound {P : Program} {f : FuncId} {args : List Value} {w w' : World} {v : Value} (h : Fn P f args w = some (v, w')) : CallOk P f args w v w' := by
  obtain ⟨n, hn⟩ := ((Fn_lim P f args w).2 _).1 h
  exact (stp_sound P n).1 f args w v w' hn

theorem Fn_calls {P : Program} {f : FuncId} {args : List Value} {w w' : World} {v : Value} (hb : bodied P f = true) (h : Fn P f args w = some (v, w')) : Calls P f args.toArray w (retOk v w') := by
  rcases Fn_sound h with hc | ⟨_, hc⟩
  · exact (bodied_not hb hc).elim
  · exact hc

end Go.Cb
