/-
  Records of a range over a function, as parts of the heap; its steps.
-/
import Derived.Test.YtialecgadoepjaaWp
set_option linter.unusedVariables false
set_option linter.unusedSimpArgs false
namespace Go.Cb
variable {w : World} {F : List HP} {Q : Value → World → Prop}

/-- block b is this. -/
def ob (b : Nat) (o : Obj) : HP := fun h => h = fun c => if c = b then some o else none
def nocell : Obj → Bool
  | .cells _ _ _ => false
  | _ => true
theorem Sat.obAt {b : Nat} {o : Obj} (h : Sat w (ob b o :: F)) : w.heap[b]? = some o := by
  obtain ⟨x, hx, h1, h2, hd, rfl, hA, hF⟩ := h
  exact hx b _ (un_l (by rw [hA]; simp))

theorem fz_push {o : Obj} (hn : nocell o = true) (a : Addr) : (World.push w o).frozen? a = w.frozen? a := by
  unfold World.push World.frozen?
  simp only [Array.getElem?_push]
  by_cases h : a.block = w.heap.size
  · rw [if_pos h, h, Array.getElem?_eq_none (Nat.le_refl _)]
    cases o <;> first | rfl | exact absurd hn Bool.false_ne_true
  · rw [if_neg h]
theorem fz_put {b : Nat} {o o' : Obj} (hb : w.heap[b]? = some o) (hn : nocell o = true) (hn' : nocell o' = true) (a : Addr) : (World.putObj w b o').frozen? a = w.frozen? a := by
  unfold World.putObj World.frozen?
  simp only [Array.getElem?_setIfInBounds]
  by_cases h : b = a.block
  · subst h
    have hlt := (Array.getElem?_eq_some_iff.1 hb).1
    rw [if_pos rfl, if_pos hlt, hb]
    cases o <;> cases o' <;> first | rfl | exact absurd hn Bool.false_ne_true | exact absurd hn' Bool.false_ne_true
  · rw [if_neg h]

theorem Sat.obNew {o : Obj} (hn : nocell o = true) (h : Sat w F) : Sat (World.push w o) (ob w.heap.size o :: F) ∧ Sm w (World.push w o) := by
  refine ⟨?_, ⟨rfl, rfl, rfl, fz_push hn⟩⟩
  obtain ⟨h2, hx2, hF⟩ := h
  have hne : ∀ c, h2 c ≠ none → c ≠ w.heap.size := by
    intro c hc
    have := hx2.lt hc; omega
  refine ⟨un (fun c => if c = w.heap.size then some o else none) h2, ?_, _, h2, ?_, rfl, rfl, hF⟩
  · intro c x hc
    unfold un at hc
    by_cases hcb : c = w.heap.size
    · subst hcb
      simp at hc
      subst hc
      show (w.heap.push o)[w.heap.size]? = some o
      simp
    · simp only [if_neg hcb, Option.none_or] at hc
      have hlt := hx2.lt (b := c) (by rw [hc]; simp)
      have := hx2 c x hc
      simp only [World.push, Array.getElem?_push]
      rw [if_neg hcb]; exact this
  · intro c
    by_cases hcb : h2 c = none
    · exact .inr hcb
    · left; simp only [if_neg (hne c hcb)]

theorem Sat.obPut {b : Nat} {o o' : Obj} (hn : nocell o = true) (hn' : nocell o' = true) (h : Sat w (ob b o :: F)) : Sat (World.putObj w b o') (ob b o' :: F) ∧ Sm w (World.putObj w b o') := by
  refine ⟨?_, ⟨rfl, rfl, rfl, fz_put h.obAt hn hn'⟩⟩
  have hat := h.obAt
  have hlt : b < w.heap.size := (Array.getElem?_eq_some_iff.1 hat).1
  obtain ⟨x, hx, h1, h2, hd, rfl, hA, hF⟩ := h
  have hx2 : h2.on w := fun c o hc => hx c o (un_r hd hc)
  have h1b : h1 b ≠ none := by rw [hA]; simp
  have hne : ∀ c, h2 c ≠ none → c ≠ b := by
    rintro c hc rfl
    rcases hd c with h | h
    · exact h1b h
    · exact hc h
  refine ⟨un (fun c => if c = b then some o' else none) h2, ?_, _, h2, ?_, rfl, rfl, hF⟩
  · intro c x hc
    unfold un at hc
    by_cases hcb : c = b
    · rw [hcb]
      simp only [if_pos hcb, Option.some_or, Option.some.injEq] at hc
      subst hc
      show (w.heap.setIfInBounds b o')[b]? = some o'
      simp [hlt]
    · simp only [if_neg hcb, Option.none_or] at hc
      have := hx2 c x hc
      simp only [World.putObj, Array.getElem?_setIfInBounds]
      rw [if_neg (fun h => hcb h.symm)]; exact this
  · intro c
    by_cases hcb : h2 c = none
    · exact .inr hcb
    · left; simp only [if_neg (hne c hcb)]

/-- a range's record. -/
abbrev lp (f : FuncId) (ts : Array Value) (ps : Array Tmp) (a b : Code) (D : Nat) (st : LoopState) (pd : Option Code) : Obj :=
  .loop { state := st, pending := pd, fn := f, tmps := ts, params := ps, assign := a, body := b, defers := D }

theorem go_rng {C : Ctx} {f : Nat} {first cap : Array Value} {ps : Array Tmp} {assign body : Code} {K : Exit → Env → World → R} {e : Env} (hro : C.ro = none) (hb : bodied C.P f = true) (he : e C.N = undef) (hs : Sat w F)
    (h : ∀ d l w', Sat w' (ob l (lp C.f (tab C.N e) ps assign body d .ready none) :: ob d (.deferred (some [])) :: F) → Sm w w' → Ok (callV C (.func (.func f) first cap) [.func (.yield l) #[] #[]] w') fun _ w'' => Ok (endL l K (upd e C.N (.map (some d))) w'') Q) :
    Ok (rngR C (.func (.func f) first cap) ps assign body K e w) Q := by
  unfold rngR
  simp only [hb, hro, he, cond_true]
  have hu : unset undef = true := rfl
  rw [hu]
  simp only [cond_true]
  obtain ⟨g1, s1⟩ := hs.obNew (o := .deferred (some [])) rfl
  obtain ⟨g2, s2⟩ := g1.obNew (o := newLoop C.f (tab C.N e) ps assign body w.heap.size) rfl
  have hz : (World.push w (.deferred (some []))).heap.size = w.heap.size + 1 := by simp [World.push]
  rw [hz] at g2
  exact Ok.bind (h _ _ _ g2 (s1.trans s2)) fun _ _ hk => hk

theorem end_norm {l : Nat} {f : FuncId} {ts : Array Value} {ps : Array Tmp} {a b : Code} {D : Nat} {K : Exit → Env → World → R} {e : Env} (hs : Sat w (ob l (lp f ts ps a b D .ready none) :: F))
    (hk : ∀ w', Sat w' F → Sm w w' → Ok (K .normal e w') Q) : Ok (endL l K e w) Q := by
  unfold endL
  rw [hs.obAt]
  obtain ⟨g, s⟩ := hs.obPut (o' := lp f ts ps a b D .exhausted none) rfl rfl
  exact hk _ g.drop s
theorem end_ret {l : Nat} {f : FuncId} {ts : Array Value} {ps : Array Tmp} {a b : Code} {D : Nat} {K : Exit → Env → World → R} {e : Env} (hs : Sat w (ob l (lp f ts ps a b D .done (some .ret)) :: F))
    (hk : ∀ w', Sat w' F → Sm w w' → Ok (K .ret e w') Q) : Ok (endL l K e w) Q := by
  unfold endL
  rw [hs.obAt]
  obtain ⟨g, s⟩ := hs.obPut (o' := lp f ts ps a b D .exhausted (some .ret)) rfl rfl
  exact hk _ g.drop s
theorem end_exit {l i : Nat} {f : FuncId} {ts : Array Value} {ps : Array Tmp} {a b : Code} {D : Nat} {K : Exit → Env → World → R} {e : Env} (hs : Sat w (ob l (lp f ts ps a b D .done (some (.exit i))) :: F))
    (hk : ∀ w', Sat w' F → Sm w w' → Ok (K (.exit i) e w') Q) : Ok (endL l K e w) Q := by
  unfold endL
  rw [hs.obAt]
  obtain ⟨g, s⟩ := hs.obPut (o' := lp f ts ps a b D .exhausted (some (.exit i))) rfl rfl
  exact hk _ g.drop s

theorem go_shut {d : Nat} {k : World → R} (hs : Sat w (ob d (.deferred (some [])) :: F)) (hk : ∀ w', Sat w' F → Sm w w' → Ok (k w') Q) : Ok (shutK (.map (some d)) w k) Q := by
  unfold shutK
  simp only [hs.obAt]
  obtain ⟨g, s⟩ := hs.obPut (o' := .deferred none) rfl rfl
  exact hk _ g.drop s

theorem go_beg {l : Nat} {f : FuncId} {ts : Array Value} {ps : Array Tmp} {a b : Code} {D : Nat} {pd : Option Code} {k : World → R} (hs : Sat w (ob l (lp f ts ps a b D .ready pd) :: F)) (hk : ∀ w', Sat w' (ob l (lp f ts ps a b D .busy pd) :: F) → Sm w w' → Ok (k w') Q) : Ok (begR l w k) Q := by
  unfold begR
  simp only [hs.obAt]
  obtain ⟨g, s⟩ := hs.obPut (o' := lp f ts ps a b D .busy pd) rfl rfl
  exact hk _ g s

theorem go_fin {l : Nat} {f : FuncId} {ts : Array Value} {ps : Array Tmp} {a b : Code} {D : Nat} {st : LoopState} {pd jump : Option Code} (hs : Sat w (ob l (lp f ts ps a b D st pd) :: F))
    (hk : ∀ w', Sat w' (ob l (lp f ts ps a b D (if jump.isNone then .ready else .done) jump) :: F) → Sm w w' → Q (.bool jump.isNone) w') : Ok (finR l jump w) Q := by
  unfold finR
  simp only [hs.obAt]
  obtain ⟨g, s⟩ := hs.obPut (o' := lp f ts ps a b D (if jump.isNone then .ready else .done) jump) rfl rfl
  exact ⟨_, _, rfl, hk _ g s⟩

/-- the state of a walk: those taken, or the one refused behind them. -/
def St (R : List Ent → HP) (D : List Ent → Ent → HP) : List Ent × Option Ent → HP
  | (s, none) => R s
  | (s, some e) => D s e
/-- what is called with each entry. -/
def YOk (on : Value) (N : Nat) (stop : List Ent → Ent → Bool) (R : List Ent → HP) (D : List Ent → Ent → HP) : Prop :=
  ∀ (s : List Ent) (e : Ent) (w : World) (F : List HP), s.length < N → Sat w (R s :: F) → Ok (callV (cx90 (Fn Pg) (Rnd Pg)) on [aggE e] w) fun x w' => x = .bool (!stop s e) ∧ Sat w' (St R D (bif stop s e then (s, some e) else (s ++ [e], none)) :: F) ∧ Sm w w'
end Go.Cb
