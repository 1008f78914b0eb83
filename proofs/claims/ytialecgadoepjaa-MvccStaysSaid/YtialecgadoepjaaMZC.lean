import Derived.Test.YtialecgadoepjaaMZB
/-
  What is handed on, entry by entry, until it is said so: in plain lists.
-/
set_option linter.unusedVariables false
set_option linter.unusedSimpArgs false
namespace Go.Cb
variable {w : World} {F : List HP} {Q : Value → World → Prop}

/-- entries are handed on until one is refused: those taken, and the one refused. -/
def feed (stop : List Ent → Ent → Bool) : List Ent → List Ent → List Ent × Option Ent
  | s, [] => (s, none)
  | s, e :: r => bif stop s e then (s, some e) else feed stop (s ++ [e]) r
theorem feed_none {stop : List Ent → Ent → Bool} : ∀ {A s B : List Ent}, (feed stop s A).2 = none → feed stop s (A ++ B) = feed stop (feed stop s A).1 B
  | [], s, B, _ => rfl
  | e :: r, s, B, h => by
    simp only [feed, List.cons_append] at h ⊢
    cases hs : stop s e with
    | true => rw [hs] at h; cases h
    | false => rw [hs] at h; exact feed_none (A := r) h
theorem feed_some {stop : List Ent → Ent → Bool} : ∀ {A s B : List Ent} {e : Ent}, (feed stop s A).2 = some e → feed stop s (A ++ B) = feed stop s A
  | [], s, B, _, h => by cases h
  | x :: r, s, B, e, h => by
    simp only [feed, List.cons_append] at h ⊢
    cases hs : stop s x with
    | true => rfl
    | false => rw [hs] at h; exact feed_some (A := r) h
theorem feed_end {stop : List Ent → Ent → Bool} : ∀ {A s : List Ent}, (feed stop s A).2 = none → (feed stop s A).1 = s ++ A
  | [], s, _ => by simp [feed]
  | e :: r, s, h => by
    simp only [feed] at h ⊢
    cases hs : stop s e with
    | true => rw [hs] at h; cases h
    | false =>
      rw [hs] at h
      have := feed_end (A := r) h
      simp only [cond_false]
      rw [this]; simp

/-- those from a key on. -/
def fromL (L : List Ent) (k : ByteArray) : List Ent := L.filter fun e => !kl e.1 k
theorem fromL_app (A B : List Ent) (k : ByteArray) : fromL (A ++ B) k = fromL A k ++ fromL B k := List.filter_append ..
theorem fromL_bel {A : List Ent} {k : ByteArray} (h : bel A k) : fromL A k = [] := List.filter_eq_nil_iff.2 fun e he => by rw [h e he]; simp
theorem fromL_id {A : List Ent} {k : ByteArray} (h : ∀ e ∈ A, kl e.1 k = false) : fromL A k = A := List.filter_eq_self.2 fun e he => by rw [h e he]; rfl

theorem fits_head {key : ByteArray} {l1 l2 : List Ent} {b : Bool} (hf : Fits key l1 l2 b) : ∀ e, l2.head? = some e → kl e.1 key = false := by
  rcases hf.2 with ⟨rfl, _⟩ | ⟨x, r, rfl, hx, _⟩
  · simp
  · intro e he; simp at he; subst he; exact hx

theorem head_from {key : ByteArray} {x : Ent} {r : List Ent} (hs : Srt (x :: r)) (hx : kl x.1 key = false) : ∀ e ∈ x :: r, kl e.1 key = false := by
  intro e he
  rcases List.mem_cons.1 he with rfl | he
  · exact hx
  · have h1 := (srt_cons.1 hs).1 e he
    cases hk : kl e.1 key with
    | false => rfl
    | true => rw [kl_tr h1 hk] at hx; cases hx

theorem rpart_from {key : ByteArray} {l2 : List Ent} {k2 : List (List Ent)} (hs : Srt (rpart l2 k2)) (hl : ∀ e, l2.head? = some e → kl e.1 key = false) : ∀ e ∈ rpart l2 k2, kl e.1 key = false := by
  match l2, k2 with
  | [], _ => simp [rpart]
  | x :: r, [] => simp [rpart]
  | x :: r, k :: ks =>
    rw [rpart_cons] at hs ⊢
    exact head_from hs (hl x rfl)

theorem from_il {key : ByteArray} {l1 l2 : List Ent} {b : Bool} {k1 k2 : List (List Ent)} {k : List Ent} (hf : Fits key l1 l2 b) (hk : k1.length = l1.length) (hs : Srt (il (l1 ++ l2) (k1 ++ k :: k2))) :
    fromL (il (l1 ++ l2) (k1 ++ k :: k2)) key = fromL k key ++ rpart l2 k2 := by
  rw [il_app l2 k k2 hk] at hs ⊢
  obtain ⟨h1, h2, _⟩ := srt_app.1 hs
  obtain ⟨h3, h4, _⟩ := srt_app.1 h1
  rw [fromL_app, fromL_app, fromL_bel (lpart_bel h3 hf.1), fromL_id (rpart_from h2 (fits_head hf))]
  rfl
end Go.Cb

/-
  What a walk takes, in plain lists: the keys in a span, so many; the next key above a text.
-/
set_option linter.unusedVariables false
set_option linter.unusedSimpArgs false
namespace Go.Cb

theorem bl_next : ∀ (a b : List UInt8), Op.bytesLess a (b ++ [0]) = !Op.bytesLess b a
  | [], [] => rfl
  | x :: r, [] => by
    simp only [List.nil_append, Op.bytesLess]
    have h1 : ¬ x < 0 := by simp [UInt8.lt_iff_toNat_lt]
    cases r <;> simp [Op.bytesLess, h1]
  | [], y :: s => by simp [Op.bytesLess]
  | x :: r, y :: s => by
    have ih := bl_next r s
    simp only [List.cons_append, Op.bytesLess]
    rw [ih]
    rcases Nat.lt_trichotomy x.toNat y.toNat with h | h | h
    · have h1 : x < y := UInt8.lt_iff_toNat_lt.2 h
      have h2 : ¬ y < x := fun h' => by have := UInt8.lt_iff_toNat_lt.1 h'; omega
      have h3 : ¬ y = x := by rintro rfl; omega
      simp [h1, h2, h3]
    · have h3 : x = y := UInt8.toNat_inj.1 h
      subst h3
      have h1 : ¬ x < x := fun h' => by have := UInt8.lt_iff_toNat_lt.1 h'; omega
      simp [h1]
    · have h1 : y < x := UInt8.lt_iff_toNat_lt.2 h
      have h2 : ¬ x < y := fun h' => by have := UInt8.lt_iff_toNat_lt.1 h'; omega
      have h3 : ¬ x = y := by rintro rfl; omega
      simp [h1, h2, h3]

/-- in a span. -/
def inB (f t k : ByteArray) : Bool := !kl k f && (decide (t = ByteArray.empty) || kl k t)
def stopW (m : Int) (f t : ByteArray) (s : List Ent) (e : Ent) : Bool := decide (m ≤ (s.length : Int)) || !inB f t e.1

theorem feedW {m : Int} {f t : ByteArray} : ∀ (A s : List Ent), Srt A → (∀ e ∈ A, kl e.1 f = false) → (feed (stopW m f t) s A).1 = s ++ (A.filter fun e => inB f t e.1).take (m - s.length).toNat
  | [], s, _, _ => by simp [feed]
  | e :: r, s, hs, hf => by
    obtain ⟨h1, h2⟩ := srt_cons.1 hs
    have he := hf e (by simp)
    by_cases hm : m ≤ (s.length : Int)
    · have : (m - s.length).toNat = 0 := by omega
      rw [this]
      simp [feed, stopW, hm]
    · cases hi : inB f t e.1 with
      | true =>
        have ih := feedW (m := m) (f := f) (t := t) r (s ++ [e]) h2 (fun x hx => hf x (by simp [hx]))
        have hst : stopW m f t s e = false := by simp [stopW, hm, hi]
        simp only [feed, hst, cond_false]
        rw [ih]
        obtain ⟨n, hn⟩ : ∃ n, (m - s.length).toNat = n + 1 := ⟨(m - s.length).toNat - 1, by omega⟩
        have hn' : (m - (s ++ [e]).length).toNat = n := by simp; omega
        rw [hn, hn', List.filter_cons_of_pos (by simpa using hi), List.take_succ_cons]
        simp
      | false =>
        have hst : stopW m f t s e = true := by simp [stopW, hi]
        have hr : (e :: r).filter (fun e => inB f t e.1) = [] := by
          rw [List.filter_eq_nil_iff]
          have hb : decide (t = ByteArray.empty) = false ∧ kl e.1 t = false := by
            have := hi
            simp only [inB, he, Bool.not_false, Bool.true_and, Bool.or_eq_false_iff] at this
            exact this
          intro x hx
          rcases List.mem_cons.1 hx with rfl | hx
          · rw [hi]; simp
          · have hk : kl x.1 t = false := by
              cases hk : kl x.1 t with
              | false => rfl
              | true => rw [kl_tr (h1 x hx) hk] at hb; exact absurd hb.2 (by simp)
            simp [inB, hb.1, hk]
        rw [hr]
        simp [feed, hst]

theorem from_in {f t : ByteArray} (L : List Ent) : (fromL L f).filter (fun e => inB f t e.1) = L.filter fun e => inB f t e.1 := by
  unfold fromL
  rw [List.filter_filter]
  congr 1
  funext e
  cases h : kl e.1 f <;> simp [inB, h]
theorem from_srt {L : List Ent} {f : ByteArray} (h : Srt L) : Srt (fromL L f) := List.Pairwise.filter _ h
theorem from_ge {L : List Ent} {f : ByteArray} : ∀ e ∈ fromL L f, kl e.1 f = false := by
  intro e he
  have := (List.mem_filter.1 he).2
  simpa using this

/-- what a walk answers. -/
def walkL (L : List Ent) (f t : ByteArray) (m : Int) : List Ent := (L.filter fun e => inB f t e.1).take m.toNat
theorem feed_walk {m : Int} {f t : ByteArray} {L : List Ent} (h : Srt L) : (feed (stopW m f t) [] (fromL L f)).1 = walkL L f t m := by
  rw [feedW _ _ (from_srt h) from_ge, from_in]
  simp [walkL]
end Go.Cb

/-
  Records of a range over a function, as parts of the heap; its steps.
-/
set_option linter.unusedVariables false
set_option linter.unusedSimpArgs false
namespace Go.Cb
variable {w : World} {F : List HP} {Q : Value → World → Prop}

/-- block b is this. -/
def ob (b : Nat) (o : Obj) : HP := fun h => h = fun c => if c = b then some o else none
def nocell : Obj → Bool
  | .cells _ _ _ => false
  | _ => true
theorem Sat.obAt {b : Nat} {o : Obj} (h : Sat w (ob b o :: F)) : w.heap[b]? = some o := by
  obtain ⟨x, hx, h1, h2, hd, rfl, hA, hF⟩ := h
  exact hx b _ (un_l (by rw [hA]; simp))

theorem fz_push {o : Obj} (hn : nocell o = true) (a : Addr) : (World.push w o).frozen? a = w.frozen? a := by
  unfold World.push World.frozen?
  simp only [Array.getElem?_push]
  by_cases h : a.block = w.heap.size
  · rw [if_pos h, h, Array.getElem?_eq_none (Nat.le_refl _)]
    cases o <;> first | rfl | exact absurd hn Bool.false_ne_true
  · rw [if_neg h]
theorem fz_put {b : Nat} {o o' : Obj} (hb : w.heap[b]? = some o) (hn : nocell o = true) (hn' : nocell o' = true) (a : Addr) : (World.putObj w b o').frozen? a = w.frozen? a := by
  unfold World.putObj World.frozen?
  simp only [Array.getElem?_setIfInBounds]
  by_cases h : b = a.block
  · subst h
    have hlt := (Array.getElem?_eq_some_iff.1 hb).1
    rw [if_pos rfl, if_pos hlt, hb]
    cases o <;> cases o' <;> first | rfl | exact absurd hn Bool.false_ne_true | exact absurd hn' Bool.false_ne_true
  · rw [if_neg h]

theorem Sat.obNew {o : Obj} (hn : nocell o = true) (h : Sat w F) : Sat (World.push w o) (ob w.heap.size o :: F) ∧ Sm w (World.push w o) := by
  refine ⟨?_, ⟨rfl, rfl, rfl, fz_push hn⟩⟩
  obtain ⟨h2, hx2, hF⟩ := h
  have hne : ∀ c, h2 c ≠ none → c ≠ w.heap.size := by
    intro c hc
    have := hx2.lt hc; omega
  refine ⟨un (fun c => if c = w.heap.size then some o else none) h2, ?_, _, h2, ?_, rfl, rfl, hF⟩
  · intro c x hc
    unfold un at hc
    by_cases hcb : c = w.heap.size
    · subst hcb
      simp at hc
      subst hc
      show (w.heap.push o)[w.heap.size]? = some o
      simp
    · simp only [if_neg hcb, Option.none_or] at hc
      have hlt := hx2.lt (b := c) (by rw [hc]; simp)
      have := hx2 c x hc
      simp only [World.push, Array.getElem?_push]
      rw [if_neg hcb]; exact this
  · intro c
    by_cases hcb : h2 c = none
    · exact .inr hcb
    · left; simp only [if_neg (hne c hcb)]

theorem Sat.obPut {b : Nat} {o o' : Obj} (hn : nocell o = true) (hn' : nocell o' = true) (h : Sat w (ob b o :: F)) : Sat (World.putObj w b o') (ob b o' :: F) ∧ Sm w (World.putObj w b o') := by
  refine ⟨?_, ⟨rfl, rfl, rfl, fz_put h.obAt hn hn'⟩⟩
  have hat := h.obAt
  have hlt : b < w.heap.size := (Array.getElem?_eq_some_iff.1 hat).1
  obtain ⟨x, hx, h1, h2, hd, rfl, hA, hF⟩ := h
  have hx2 : h2.on w := fun c o hc => hx c o (un_r hd hc)
  have h1b : h1 b ≠ none := by rw [hA]; simp
  have hne : ∀ c, h2 c ≠ none → c ≠ b := by
    rintro c hc rfl
    rcases hd c with h | h
    · exact h1b h
    · exact hc h
  refine ⟨un (fun c => if c = b then some o' else none) h2, ?_, _, h2, ?_, rfl, rfl, hF⟩
  · intro c x hc
    unfold un at hc
    by_cases hcb : c = b
    · rw [hcb]
      simp only [if_pos hcb, Option.some_or, Option.some.injEq] at hc
      subst hc
      show (w.heap.setIfInBounds b o')[b]? = some o'
      simp [hlt]
    · simp only [if_neg hcb, Option.none_or] at hc
      have := hx2 c x hc
      simp only [World.putObj, Array.getElem?_setIfInBounds]
      rw [if_neg (fun h => hcb h.symm)]; exact this
  · intro c
    by_cases hcb : h2 c = none
    · exact .inr hcb
    · left; simp only [if_neg (hne c hcb)]

/-- a range's record. -/
abbrev lp (f : FuncId) (ts : Array Value) (ps : Array Tmp) (a b : Code) (D : Nat) (st : LoopState) (pd : Option Code) : Obj :=
  .loop { state := st, pending := pd, fn := f, tmps := ts, params := ps, assign := a, body := b, defers := D }

theorem go_rng {C : Ctx} {f : Nat} {first cap : Array Value} {ps : Array Tmp} {assign body : Code} {K : Exit → Env → World → R} {e : Env} (hro : C.ro = none) (hb : bodied C.P f = true) (he : e C.N = undef) (hs : Sat w F)
    (h : ∀ d l w', Sat w' (ob l (lp C.f (tab C.N e) ps assign body d .ready none) :: ob d (.deferred (some [])) :: F) → Sm w w' → Ok (callV C (.func (.func f) first cap) [.func (.yield l) #[] #[]] w') fun _ w'' => Ok (endL l K (upd e C.N (.map (some d))) w'') Q) :
    Ok (rngR C (.func (.func f) first cap) ps assign body K e w) Q := by
  unfold rngR
  simp only [hb, hro, he, cond_true]
  have hu : unset undef = true := rfl
  rw [hu]
  simp only [cond_true]
  obtain ⟨g1, s1⟩ := hs.obNew (o := .deferred (some [])) rfl
  obtain ⟨g2, s2⟩ := g1.obNew (o := newLoop C.f (tab C.N e) ps assign body w.heap.size) rfl
  have hz : (World.push w (.deferred (some []))).heap.size = w.heap.size + 1 := by simp [World.push]
  rw [hz] at g2
  exact Ok.bind (h _ _ _ g2 (s1.trans s2)) fun _ _ hk => hk

theorem end_norm {l : Nat} {f : FuncId} {ts : Array Value} {ps : Array Tmp} {a b : Code} {D : Nat} {K : Exit → Env → World → R} {e : Env} (hs : Sat w (ob l (lp f ts ps a b D .ready none) :: F))
    (hk : ∀ w', Sat w' F → Sm w w' → Ok (K .normal e w') Q) : Ok (endL l K e w) Q := by
  unfold endL
  rw [hs.obAt]
  obtain ⟨g, s⟩ := hs.obPut (o' := lp f ts ps a b D .exhausted none) rfl rfl
  exact hk _ g.drop s
theorem end_ret {l : Nat} {f : FuncId} {ts : Array Value} {ps : Array Tmp} {a b : Code} {D : Nat} {K : Exit → Env → World → R} {e : Env} (hs : Sat w (ob l (lp f ts ps a b D .done (some .ret)) :: F))
    (hk : ∀ w', Sat w' F → Sm w w' → Ok (K .ret e w') Q) : Ok (endL l K e w) Q := by
  unfold endL
  rw [hs.obAt]
  obtain ⟨g, s⟩ := hs.obPut (o' := lp f ts ps a b D .exhausted (some .ret)) rfl rfl
  exact hk _ g.drop s
theorem end_exit {l i : Nat} {f : FuncId} {ts : Array Value} {ps : Array Tmp} {a b : Code} {D : Nat} {K : Exit → Env → World → R} {e : Env} (hs : Sat w (ob l (lp f ts ps a b D .done (some (.exit i))) :: F))
    (hk : ∀ w', Sat w' F → Sm w w' → Ok (K (.exit i) e w') Q) : Ok (endL l K e w) Q := by
  unfold endL
  rw [hs.obAt]
  obtain ⟨g, s⟩ := hs.obPut (o' := lp f ts ps a b D .exhausted (some (.exit i))) rfl rfl
  exact hk _ g.drop s

theorem go_shut {d : Nat} {k : World → R} (hs : Sat w (ob d (.deferred (some [])) :: F)) (hk : ∀ w', Sat w' F → Sm w w' → Ok (k w') Q) : Ok (shutK (.map (some d)) w k) Q := by
  unfold shutK
  simp only [hs.obAt]
  obtain ⟨g, s⟩ := hs.obPut (o' := .deferred none) rfl rfl
  exact hk _ g.drop s

theorem go_beg {l : Nat} {f : FuncId} {ts : Array Value} {ps : Array Tmp} {a b : Code} {D : Nat} {pd : Option Code} {k : World → R} (hs : Sat w (ob l (lp f ts ps a b D .ready pd) :: F)) (hk : ∀ w', Sat w' (ob l (lp f ts ps a b D .busy pd) :: F) → Sm w w' → Ok (k w') Q) : Ok (begR l w k) Q := by
  unfold begR
  simp only [hs.obAt]
  obtain ⟨g, s⟩ := hs.obPut (o' := lp f ts ps a b D .busy pd) rfl rfl
  exact hk _ g s

theorem go_fin {l : Nat} {f : FuncId} {ts : Array Value} {ps : Array Tmp} {a b : Code} {D : Nat} {st : LoopState} {pd jump : Option Code} (hs : Sat w (ob l (lp f ts ps a b D st pd) :: F))
    (hk : ∀ w', Sat w' (ob l (lp f ts ps a b D (if jump.isNone then .ready else .done) jump) :: F) → Sm w w' → Q (.bool jump.isNone) w') : Ok (finR l jump w) Q := by
  unfold finR
  simp only [hs.obAt]
  obtain ⟨g, s⟩ := hs.obPut (o' := lp f ts ps a b D (if jump.isNone then .ready else .done) jump) rfl rfl
  exact ⟨_, _, rfl, hk _ g s⟩

/-- the state of a walk: those taken, or the one refused behind them. -/
def St (R : List Ent → HP) (D : List Ent → Ent → HP) : List Ent × Option Ent → HP
  | (s, none) => R s
  | (s, some e) => D s e
/-- what is called with each entry. -/
def YOk (on : Value) (N : Nat) (stop : List Ent → Ent → Bool) (R : List Ent → HP) (D : List Ent → Ent → HP) : Prop :=
  ∀ (s : List Ent) (e : Ent) (w : World) (F : List HP), s.length < N → Sat w (R s :: F) → Ok (callV (cx125 (Fn Pg) (Rnd Pg)) on [aggE e] w) fun x w' => x = .bool (!stop s e) ∧ Sat w' (St R D (bif stop s e then (s, some e) else (s ++ [e], none)) :: F) ∧ Sm w w'
end Go.Cb

/-
  walk: each entry from a key on is handed on, until one is refused.
-/
set_option linter.unusedVariables false
set_option linter.unusedSimpArgs false
namespace Go.Cb
variable {w : World} {F : List HP} {Q Q' : Value → World → Prop}

theorem t_call {o : R} {k : Value → World → R} {x : Bool} {w : World} (hx : x = true) (h : Ok o Q') (hk : ∀ v w', Q' v w' → Ok (k v w') Q) : Ok (rd2 (gate (.bool x) true (fun _ => rd2 o fun v w => some (v, w)) w) k) Q := by
  obtain ⟨v, w', h, q⟩ := h
  exact t_ok hx (gr2 h) (hk _ _ q)
theorem f_call {o : R} {k : Value → World → R} {x : Bool} {w : World} (hx : x = false) (h : Ok o Q') (hk : ∀ v w', Q' v w' → Ok (k v w') Q) : Ok (rd2 (gate (.bool x) false (fun _ => rd2 o fun v w => some (v, w)) w) k) Q := by
  obtain ⟨v, w', h, q⟩ := h
  exact f_ok hx (gr2 h) (hk _ _ q)

theorem wk_in {h : Nat} {N A : HP} {q1 q2 : List (Nat × BT h)} {q : Nat × BT h} : Sat w (N :: (fo h (q1 ++ q :: q2) ++ (A :: F))) ↔ Sat w (tr h q.1 q.2 :: A :: N :: (fo h (q1 ++ q2) ++ F)) := by
  have hp : (N :: (fo h (q1 ++ q :: q2) ++ (A :: F))).Perm (tr h q.1 q.2 :: A :: N :: (fo h (q1 ++ q2) ++ F)) := by
    rw [fo_app, fo_cons, fo_app, List.append_assoc, List.cons_append, List.append_assoc]
    have h1 : (fo h q1 ++ tr h q.1 q.2 :: (fo h q2 ++ A :: F)).Perm (tr h q.1 q.2 :: A :: (fo h q1 ++ (fo h q2 ++ F))) := by
      refine List.perm_middle.trans (List.Perm.cons _ ?_)
      rw [← List.append_assoc, ← List.append_assoc]
      exact List.perm_middle
    exact (h1.cons N).trans ((List.Perm.swap _ _ _).trans ((List.Perm.swap _ _ _).cons _))
  exact ⟨fun hs => hs.perm hp, fun hs => hs.perm hp.symm⟩
theorem ca_in {N A : HP} {X : List HP} : Sat w (N :: (X ++ (A :: F))) ↔ Sat w (A :: N :: (X ++ F)) := by
  have hp : (N :: (X ++ (A :: F))).Perm (A :: N :: (X ++ F)) := (List.perm_middle.cons N).trans (List.Perm.swap _ _ _)
  exact ⟨fun hs => hs.perm hp, fun hs => hs.perm hp.symm⟩

theorem sub_flat {p : Ent × List Ent} {L : List (Ent × List Ent)} (h : p ∈ L) : (p.1 :: p.2).Sublist (L.flatMap fun p => p.1 :: p.2) := by
  obtain ⟨A, B, rfl⟩ := List.append_of_mem h
  rw [List.flatMap_append, List.flatMap_cons]
  exact (List.sublist_append_left _ _).trans (List.sublist_append_right _ _)

variable {on : Value} {N : Nat} {stop : List Ent → Ent → Bool} {R : List Ent → HP} {D : List Ent → Ent → HP} {key : ByteArray}

theorem walk_leaf (hon : YOk on N stop R D) {p : Nat} : ∀ (l2 l1 s : List Ent) (e : Env) (w : World) (F : List HP), s.length + l2.length ≤ N → Sat w (nd p (l1 ++ l2) [] :: R s :: F) → (l1 ++ l2).length ≤ 5 → e 0 = ptr p 0 → e 1 = .string key → e 2 = on → e 7 = int l1.length → e 50 = undef →
    Ok (evalLoop (cx125 (Fn Pg) (Rnd Pg)) (cdA Go.Proofs.Try.f125 [1, 1, 0, 0]) (K125_1 (Fn Pg) (Rnd Pg)) e w) fun x w' => x = .bool (feed stop s l2).2.isNone ∧ Sat w' (nd p (l1 ++ l2) [] :: St R D (feed stop s l2) :: F) ∧ Sm w w' := by
  intro l2
  induction l2 with
  | nil =>
    intro l1 s e w F hN hs h5 e0 e1 e2 e7 e50
    obtain ⟨lv, kv, f1, f2, f3, f4, f5, _⟩ := nd_facts hs (k := 0) rfl
    rw [S125_L1_eq]; unfold S125_L1
    rw [e0, e1, e2, e7, e50]
    refine Ok.rd2 (leaf_eq hs 0 rfl) (Ok.rd (un_not _) ?_)
    refine t_no rfl (t_no rfl (t_no rfl (t_no rfl (t_no rfl (t_no rfl (t_no rfl (t_no rfl (t_no rfl (t_no rfl (t_no rfl (pk_f rfl (Ok.cf rfl ?_))))))))))))
    refine Ok.rd (nil_ptr _ _) (Ok.rd (fld100_0 _ _) (Ok.rd f1 (Ok.rd2 (f5 _ _ _ _) (Ok.rd2 bin_eql (Ok.ct (by simp) ?_)))))
    exact ⟨_, _, rfl, rfl, hs, Sm.refl _⟩
  | cons y l2 ih =>
    intro l1 s e w F hN hs h5 e0 e1 e2 e7 e50
    obtain ⟨lv, kv, f1, f2, f3, f4, f5, _⟩ := nd_facts hs (k := 0) rfl
    rw [S125_L1_eq]; unfold S125_L1
    rw [e0, e1, e2, e7, e50]
    refine Ok.rd2 (leaf_eq hs 0 rfl) (Ok.rd (un_not _) ?_)
    refine t_no rfl (t_no rfl (t_no rfl (t_no rfl (t_no rfl (t_no rfl (t_no rfl (t_no rfl (t_no rfl (t_no rfl (t_no rfl (pk_f rfl (Ok.cf rfl ?_))))))))))))
    refine Ok.rd (nil_ptr _ _) (Ok.rd (fld100_0 _ _) (Ok.rd f1 (Ok.rd2 (f5 _ _ _ _) (Ok.rd2 bin_eql (Ok.cf (by simp; omega) ?_)))))
    obtain ⟨b, o, g1, g2, _⟩ := f4 l1.length y (by simp)
    refine Ok.rd (nil_ptr _ _) (Ok.rd (fld100_0 _ _) (Ok.rd f1 (Ok.rd g1 (Ok.rd g2 ?_))))
    refine Ok.bind (hon s y w _ (by simp at hN; omega) hs.sw) ?_
    rintro x w1 ⟨rfl, h1, s1⟩
    refine Ok.rd (un_not _) ?_
    cases hst : stop s y with
    | true =>
      rw [hst] at h1
      refine Ok.ct rfl ?_
      refine ⟨_, _, rfl, ?_, ?_, s1⟩
      · simp [feed, hst]
      · simp only [feed, hst, cond_true]; exact h1.sw
    | false =>
      rw [hst] at h1
      refine Ok.cf rfl (Ok.rd2 (bin_add1 (by simp at h5; omega)) ?_)
      have hl : l1 ++ y :: l2 = (l1 ++ [y]) ++ l2 := by simp
      have h2 : Sat w1 (nd p ((l1 ++ [y]) ++ l2) [] :: R (s ++ [y]) :: F) := by rw [← hl]; exact h1.sw
      refine Ok.mono (ih (l1 ++ [y]) (s ++ [y]) _ w1 F (by simp at hN ⊢; omega) h2 (by rw [← hl]; exact h5) ?_ ?_ ?_ ?_ ?_) ?_
      · exact e0
      · exact e1
      · exact e2
      · show int _ = int _; simp
      · exact e50
      · rintro x w2 ⟨rfl, m1, m2⟩
        simp only [feed, hst, cond_false]
        exact ⟨trivial, by rw [hl]; exact m1, s1.trans m2⟩

theorem walk_node (hon : YOk on N stop R D) {h p : Nat} (ihh : ∀ (p : Nat) (t : BT h) (s : List Ent) (w : World) (F : List HP), s.length + (fromL (flat h t) key).length ≤ N → wf h t → Srt (flat h t) → Sat w (tr h p t :: R s :: F) →
      Ok (Fn Pg 125 [ptr p 0, .string key, on] w) fun x w' => x = .bool (feed stop s (fromL (flat h t) key)).2.isNone ∧ Sat w' (tr h p t :: St R D (feed stop s (fromL (flat h t) key)) :: F) ∧ Sm w w') :
    ∀ (l2 l1 : List Ent) (q1 q2 : List (Nat × BT h)) (q : Nat × BT h) (s : List Ent) (e : Env) (w : World) (F : List HP), s.length + (fromL (flat h q.2) key ++ rpart l2 (fk h q2)).length ≤ N → q1.length = l1.length → q2.length = l2.length → Sat w (nd p (l1 ++ l2) ((q1 ++ q :: q2).map (·.1)) :: (fo h (q1 ++ q :: q2) ++ (R s :: F))) → (l1 ++ l2).length ≤ 5 →
    (∀ q' ∈ q :: q2, wf h q'.2 ∧ Srt (flat h q'.2)) → (∀ x ∈ rpart l2 (fk h q2), kl x.1 key = false) → e 0 = ptr p 0 → e 1 = .string key → e 2 = on → e 7 = int l1.length → e 50 = undef →
    Ok (evalLoop (cx125 (Fn Pg) (Rnd Pg)) (cdA Go.Proofs.Try.f125 [1, 1, 0, 0]) (K125_1 (Fn Pg) (Rnd Pg)) e w) fun x w' => x = .bool (feed stop s (fromL (flat h q.2) key ++ rpart l2 (fk h q2))).2.isNone ∧
      Sat w' (nd p (l1 ++ l2) ((q1 ++ q :: q2).map (·.1)) :: (fo h (q1 ++ q :: q2) ++ (St R D (feed stop s (fromL (flat h q.2) key ++ rpart l2 (fk h q2))) :: F))) ∧ Sm w w' := by
  intro l2
  induction l2 with
  | nil =>
    intro l1 q1 q2 q s e w F hN hq1 hq2 hs h5 hw hge e0 e1 e2 e7 e50
    obtain ⟨lv, kv, f1, f2, f3, f4, f5, _⟩ := nd_facts hs (k := 0) rfl
    rw [S125_L1_eq]; unfold S125_L1
    rw [e0, e1, e2, e7, e50]
    have hx : (!decide (((q1 ++ q :: q2).map (·.1)).length = 0)) = true := by simp
    obtain ⟨b, o, g1, g2⟩ := f3 l1.length q.1 (by rw [← hq1]; simp)
    refine Ok.rd2 (leaf_eq hs 0 rfl) (Ok.rd (un_not _) ?_)
    refine t_ok hx rfl (t_ok hx rfl (t_ok hx (by rw [fld100_1]; rfl) (t_ok hx (by rw [f2]; rfl) (t_ok hx rfl (t_ok hx (by rw [g1]; rfl) (t_ok hx (by rw [g2]; rfl) (t_ok hx rfl (t_ok hx rfl ?_))))))))
    refine t_call hx (ihh q.1 q.2 s w _ (by rw [List.length_append] at hN; omega) (hw q (by simp)).1 (hw q (by simp)).2 (wk_in.1 hs)) ?_
    rintro x w1 ⟨rfl, h1, s1⟩
    refine t_ok hx (by rw [un_not]; rfl) (pk_t hx ?_)
    have hr : rpart [] (fk h q2) = [] := by simp [rpart]
    rw [hr, List.append_nil]
    cases hst : (feed stop s (fromL (flat h q.2) key)).2 with
    | some z =>
      refine Ok.ct rfl ?_
      exact ⟨_, _, rfl, rfl, wk_in.2 h1, s1⟩
    | none =>
      have h2 := wk_in.2 h1
      obtain ⟨lv, kv, f1, f2, f3, f4, f5, _⟩ := nd_facts h2 (k := 0) rfl
      refine Ok.cf rfl ?_
      refine Ok.rd (nil_ptr _ _) (Ok.rd (fld100_0 _ _) (Ok.rd f1 (Ok.rd2 (f5 _ _ _ _) (Ok.rd2 bin_eql (Ok.ct (by simp) ?_)))))
      exact ⟨_, _, rfl, rfl, h2, s1⟩
  | cons y l2 ih =>
    intro l1 q1 q2 q s e w F hN hq1 hq2 hs h5 hw hge e0 e1 e2 e7 e50
    obtain ⟨q', q2, rfl⟩ : ∃ a b, q2 = a :: b := by
      cases q2 with
      | nil => simp at hq2
      | cons a b => exact ⟨a, b, rfl⟩
    obtain ⟨lv, kv, f1, f2, f3, f4, f5, _⟩ := nd_facts hs (k := 0) rfl
    rw [S125_L1_eq]; unfold S125_L1
    rw [e0, e1, e2, e7, e50]
    have hx : (!decide (((q1 ++ q :: q' :: q2).map (·.1)).length = 0)) = true := by simp
    obtain ⟨b, o, g1, g2⟩ := f3 l1.length q.1 (by rw [← hq1]; simp)
    refine Ok.rd2 (leaf_eq hs 0 rfl) (Ok.rd (un_not _) ?_)
    refine t_ok hx rfl (t_ok hx rfl (t_ok hx (by rw [fld100_1]; rfl) (t_ok hx (by rw [f2]; rfl) (t_ok hx rfl (t_ok hx (by rw [g1]; rfl) (t_ok hx (by rw [g2]; rfl) (t_ok hx rfl (t_ok hx rfl ?_))))))))
    refine t_call hx (ihh q.1 q.2 s w _ (by rw [List.length_append] at hN; omega) (hw q (by simp)).1 (hw q (by simp)).2 (wk_in.1 hs)) ?_
    rintro x w1 ⟨rfl, h1, s1⟩
    refine t_ok hx (by rw [un_not]; rfl) (pk_t hx ?_)
    have hr : rpart (y :: l2) (fk h (q' :: q2)) = y :: (flat h q'.2 ++ rpart l2 (fk h q2)) := by
      show rpart (y :: l2) (flat h q'.2 :: fk h q2) = _
      rw [rpart_cons]; rfl
    rw [hr] at hge hN ⊢
    cases hst : (feed stop s (fromL (flat h q.2) key)).2 with
    | some z =>
      refine Ok.ct rfl ?_
      rw [feed_some hst]
      refine ⟨_, _, rfl, by rw [hst]; rfl, wk_in.2 h1, s1⟩
    | none =>
      have h2 := wk_in.2 h1
      rw [feed_none hst]
      obtain ⟨s', hs'⟩ : ∃ s', feed stop s (fromL (flat h q.2) key) = (s', none) := ⟨_, Prod.ext rfl hst⟩
      have hse := feed_end hst
      rw [hs'] at hse
      have hse : s' = s ++ fromL (flat h q.2) key := hse
      have hN' : s'.length + (y :: (flat h q'.2 ++ rpart l2 (fk h q2))).length ≤ N := by rw [hse, List.length_append]; rw [List.length_append] at hN; omega
      clear hse
      rw [hs'] at h2 ⊢
      have h2 : Sat w1 (nd p (l1 ++ y :: l2) ((q1 ++ q :: q' :: q2).map (·.1)) :: (fo h (q1 ++ q :: q' :: q2) ++ (R s' :: F))) := h2
      obtain ⟨lv, kv, f1, f2, f3, f4, f5, _⟩ := nd_facts h2 (k := 0) rfl
      refine Ok.cf rfl ?_
      refine Ok.rd (nil_ptr _ _) (Ok.rd (fld100_0 _ _) (Ok.rd f1 (Ok.rd2 (f5 _ _ _ _) (Ok.rd2 bin_eql (Ok.cf (by simp; omega) ?_)))))
      obtain ⟨b, o, g1, g2, _⟩ := f4 l1.length y (by simp)
      refine Ok.rd (nil_ptr _ _) (Ok.rd (fld100_0 _ _) (Ok.rd f1 (Ok.rd g1 (Ok.rd g2 ?_))))
      refine Ok.bind (hon s' y w1 _ (by simp at hN'; omega) (ca_in.1 h2)) ?_
      rintro x w2 ⟨rfl, h3, s3⟩
      refine Ok.rd (un_not _) ?_
      cases hsy : stop s' y with
      | true =>
        rw [hsy] at h3
        refine Ok.ct rfl ?_
        refine ⟨_, _, rfl, ?_, ?_, s1.trans s3⟩
        · simp [feed, hsy]
        · simp only [feed, hsy, cond_true]; exact ca_in.2 h3
      | false =>
        rw [hsy] at h3
        refine Ok.cf rfl (Ok.rd2 (bin_add1 (by simp at h5; omega)) ?_)
        have hl : l1 ++ y :: l2 = (l1 ++ [y]) ++ l2 := by simp
        have hqq : q1 ++ q :: q' :: q2 = (q1 ++ [q]) ++ q' :: q2 := by simp
        have h4 : Sat w2 (nd p ((l1 ++ [y]) ++ l2) (((q1 ++ [q]) ++ q' :: q2).map (·.1)) :: (fo h ((q1 ++ [q]) ++ q' :: q2) ++ (R (s' ++ [y]) :: F))) := by
          rw [← hl, ← hqq]; exact ca_in.2 h3
        have hid : fromL (flat h q'.2) key = flat h q'.2 := fromL_id fun x hx => hge x (by simp [hx])
        refine Ok.mono (ih (l1 ++ [y]) (q1 ++ [q]) q2 q' (s' ++ [y]) _ w2 F (by rw [hid]; simp at hN' ⊢; omega) (by simp [hq1]) (by simpa using hq2) h4 (by rw [← hl]; exact h5) (fun z hz => hw z (by simp at hz ⊢; exact .inr hz)) (fun x hx => hge x (by simp [hx])) ?_ ?_ ?_ ?_ ?_) ?_
        · exact e0
        · exact e1
        · exact e2
        · show int _ = int _; simp
        · exact e50
        · rintro x w3 ⟨rfl, m1, m2⟩
          rw [hid] at m1 ⊢
          simp only [feed, hsy, cond_false]
          refine ⟨trivial, ?_, s1.trans (s3.trans m2)⟩
          rw [hl, hqq]; exact m1

theorem walk_ok (hon : YOk on N stop R D) : ∀ (h p : Nat) (t : BT h) (s : List Ent) (w : World) (F : List HP), s.length + (fromL (flat h t) key).length ≤ N → wf h t → Srt (flat h t) → Sat w (tr h p t :: R s :: F) →
    Ok (Fn Pg 125 [ptr p 0, .string key, on] w) fun x w' => x = .bool (feed stop s (fromL (flat h t) key)).2.isNone ∧ Sat w' (tr h p t :: St R D (feed stop s (fromL (flat h t) key)) :: F) ∧ Sm w w' := by
  intro h
  induction h with
  | zero =>
    intro p (t : List Ent) s w F hN hw hsr hs
    have hs : Sat w (nd p t [] :: R s :: F) := hs
    have hw : List.length t ≤ 5 := hw
    rw [F125]; unfold S125
    refine Ok.bind (find_ok hs (k := 0) rfl (by omega)) ?_
    rintro v w1 ⟨l1, l2, b, rfl, hf, rfl, h2, s1⟩
    refine Ok.rd rfl (Ok.rd rfl ?_)
    have hsr' : Srt (l1 ++ l2) := hsr
    have hfr : fromL (flat 0 (l1 ++ l2)) key = l2 := by
      show fromL (l1 ++ l2) key = l2
      rw [fromL_app, fromL_bel hf.1]
      match l2, fits_head hf, (srt_app.1 hsr').2.1 with
      | [], _, _ => rfl
      | z :: r, hz, hr => exact fromL_id (head_from hr (hz z rfl))
    rw [hfr] at hN ⊢
    refine Ok.mono (walk_leaf hon (key := key) l2 l1 s _ w1 F hN h2 hw rfl rfl rfl rfl rfl) ?_
    rintro x w2 ⟨rfl, m1, m2⟩
    exact ⟨rfl, m1, s1.trans m2⟩
  | succ h ih =>
    intro p t s w F hN hw hsr hs
    obtain ⟨l, ks⟩ := t
    have hl5 : l.length ≤ 5 := hw.1
    have hkl : ks.length = l.length + 1 := hw.2.1
    obtain ⟨qs, hq, hs0⟩ := tr_open1 hs
    clear hs
    have hq : qs.map (·.2) = ks := hq
    have hqs : qs.length = l.length + 1 := by rw [← hkl, ← hq, List.length_map]
    subst hq
    have hkids : ∀ q ∈ qs, wf h q.2 ∧ 2 ≤ (ents h q.2).length := fun q hm => wf_kid hw (List.mem_map_of_mem hm)
    have hs0 : Sat w (nd p l (qs.map (·.1)) :: (fo h qs ++ (R s :: F))) := hs0
    rw [F125]; unfold S125
    refine Ok.bind (find_ok hs0 (k := 0) rfl (by omega)) ?_
    rintro v w1 ⟨l1, l2, b, rfl, hf, rfl, h2, s1⟩
    refine Ok.rd rfl (Ok.rd rfl ?_)
    obtain ⟨q1, q, q2, rfl, hq1⟩ := ex_at (xs := qs) (i := l1.length) (by rw [hqs]; simp; omega)
    have hq2 : q2.length = l2.length := by simp at hqs; omega
    have hfl := flat_at (p := q.1) (l2 := l2) (q2 := q2) (k := q.2) hq1
    have hfl : flat (h + 1) (l1 ++ l2, (q1 ++ q :: q2).map (·.2)) = lpart l1 (fk h q1) ++ flat h q.2 ++ rpart l2 (fk h q2) := hfl
    rw [hfl] at hsr hN ⊢
    obtain ⟨a1, a2, _⟩ := srt_app.1 hsr
    obtain ⟨a3, a4, _⟩ := srt_app.1 a1
    have hge := rpart_from a2 (fits_head hf)
    have hall : ∀ q' ∈ q2, Srt (flat h q'.2) := by
      intro q' hm
      obtain ⟨n, hn⟩ := List.getElem?_of_mem hm
      obtain ⟨hlt, rfl⟩ := List.getElem?_eq_some_iff.1 hn
      clear hfl hsr hkids hs0 h2 hqs hf hw hkl hl5
      have : (flat h q2[n].2).Sublist (rpart l2 (fk h q2)) := by
        unfold rpart
        have hz : (l2[n]'(by omega), flat h q2[n].2) ∈ l2.zip (fk h q2) := by
          refine List.mem_of_getElem? (i := n) ?_
          rw [List.getElem?_zip_eq_some]
          exact ⟨List.getElem?_eq_getElem _, by simp [fk, hlt]⟩
        exact (List.sublist_cons_self _ _).trans (sub_flat hz)
      exact List.Pairwise.sublist this a2
    have hfr : fromL (lpart l1 (fk h q1) ++ flat h q.2 ++ rpart l2 (fk h q2)) key = fromL (flat h q.2) key ++ rpart l2 (fk h q2) := by
      rw [fromL_app, fromL_app, fromL_bel (lpart_bel a3 hf.1), fromL_id hge]; rfl
    rw [hfr] at hN ⊢
    refine Ok.mono (walk_node hon ih l2 l1 q1 q2 q s _ w1 F hN hq1 hq2 h2 hl5 ?_ hge rfl rfl rfl rfl rfl) ?_
    · intro q' hm
      rcases List.mem_cons.1 hm with rfl | hm
      · exact ⟨(hkids _ (by simp)).1, a4⟩
      · exact ⟨(hkids _ (by simp [hm])).1, hall _ hm⟩
    · rintro x w2 ⟨rfl, m1, m2⟩
      exact ⟨rfl, tr_mk1 m1, s1.trans m2⟩
end Go.Cb

/-
  from: a range over a tree's entries; Next, In; After and Walk.
-/
set_option linter.unusedVariables false
set_option linter.unusedSimpArgs false
namespace Go.Cb
variable {w : World} {F : List HP} {Q Q' : Value → World → Prop}

theorem go_box {t : TypeId} {v : Value} {l : List Value} {κ : Value → World → R} (hv : v.cells.toList = l) (h : Sat w F) (hκ : ∀ nb w', Sat w' (pt nb l t :: F) → Sm w w' → Ok (κ (ptr nb 0) w') Q) : Ok (rd2 (rawV Pg (Instr.box t v) w) κ) Q := by
  subst hv
  refine Ok.rd2 box_ok (hκ _ _ ?_ (Ext.push (fun _ => False) w _).sm)
  exact h.new (Ext.push (fun _ => False) w (.cells v.cells t)) (fun _ _ hf => hf) (by have := At.new w v.cells.toList t; simpa using this) (Nat.le_refl _)
def zeroL (P : Program) (t : TypeId) : Option (List Value) := (P.info? t).bind fun i => i.zero.map fun z => z.cells.toList
theorem go_new {t : TypeId} {l : List Value} {κ : Value → World → R} (hz : zeroL Pg t = some l) (h : Sat w F) (hκ : ∀ nb w', Sat w' (pt nb l t :: F) → Sm w w' → Ok (κ (ptr nb 0) w') Q) : Ok (rd2 (rawV Pg (Instr.alloc t true (.tuple #[])) w) κ) Q := by
  unfold zeroL at hz
  obtain ⟨i, hi, hz1⟩ := Option.bind_eq_some_iff.1 hz
  obtain ⟨z, hz2, rfl⟩ := Option.map_eq_some_iff.1 hz1
  refine Ok.rd2 (alloc_ok hi hz2) (hκ _ _ ?_ (Ext.push (fun _ => False) w _).sm)
  exact h.new (Ext.push (fun _ => False) w (.cells z.cells t)) (fun _ _ hf => hf) (by have := At.new w z.cells.toList t; simpa using this) (Nat.le_refl _)
abbrev noB : ByteArray := { data := #[] }
theorem z9 : zeroL Pg 9 = some [.string noB] := by kernel_rfl
theorem z4 : zeroL Pg 4 = some [.bool false] := by kernel_rfl
theorem z37 : zeroL Pg 149 = some [.slice none 0 0] := by kernel_rfl
theorem a25 : aggT Pg 93 = some false := by kernel_rfl
theorem a4 : aggT Pg 4 = some false := by kernel_rfl

/-- one cell, read and stored. -/
theorem ld1 {b : Nat} {v : Value} {t : TypeId} (ha : aggT Pg t = some false) (h : Sat w F) (k : Nat) (hk : F[k]? = some (pt b [v] t)) : ldV Pg t (ptr b 0) w = some v := (ldV_sc ha _ _).trans ((h.foc hk).at.cell 0)
theorem st9 {b : Nat} {v u : Value} (h : Sat w F) (k : Nat) (hk : F[k]? = some (pt b [v] 9)) (hu : one u = true) : ∃ w', rawU Pg (Instr.storeAt 9 (ptr b 0) u) w = some (undef, w') ∧ Sat w' (F.set k (pt b [u] 9)) ∧ Sm w w' :=
  st_one (sz_of (by kernel_rfl)) h k hk (Nat.zero_lt_succ _) hu
theorem st4 {b : Nat} {v u : Value} (h : Sat w F) (k : Nat) (hk : F[k]? = some (pt b [v] 4)) (hu : one u = true) : ∃ w', rawU Pg (Instr.storeAt 4 (ptr b 0) u) w = some (undef, w') ∧ Sat w' (F.set k (pt b [u] 4)) ∧ Sm w w' :=
  st_one (sz_of (by kernel_rfl)) h k hk (Nat.zero_lt_succ _) hu
theorem st37 {b : Nat} {v u : Value} (h : Sat w F) (k : Nat) (hk : F[k]? = some (pt b [v] 149)) (hu : one u = true) : ∃ w', rawU Pg (Instr.storeAt 149 (ptr b 0) u) w = some (undef, w') ∧ Sat w' (F.set k (pt b [u] 149)) ∧ Sm w w' :=
  st_one (sz_of (by kernel_rfl)) h k hk (Nat.zero_lt_succ _) hu

/-! ### The closure of a range -/

abbrev frV (b1 b2 : Nat) : Value := .func (.func 124) #[] #[ptr b1 0, ptr b2 0]
theorem go_from {t : Value} {key : ByteArray} {κ : Value → World → R} (ht : one t = true) (h : Sat w F) (hκ : ∀ b1 b2 w', Sat w' (pt b2 [.string key] 9 :: pt b1 [t] 93 :: F) → Sm w w' → Ok (κ (frV b1 b2) w') Q) :
    Ok (rd2 (Fn Pg 105 [t, .string key] w) κ) Q := by
  refine Ok.bind (Q := fun v w' => ∃ b1 b2, v = frV b1 b2 ∧ Sat w' (pt b2 [.string key] 9 :: pt b1 [t] 93 :: F) ∧ Sm w w') ?_ ?_
  · rw [F105]; unfold S105
    refine go_box (l := [t]) (by rw [cells_one ht]) h fun b1 w1 h1 s1 => ?_
    refine go_box (l := [.string key]) rfl h1 fun b2 w2 h2 s2 => ?_
    exact ⟨_, _, rfl, b1, b2, rfl, h2, s1.trans s2⟩
  · rintro v w' ⟨b1, b2, rfl, h1, s1⟩
    exact hκ _ _ _ h1 s1

theorem each_ok {on : Value} {N : Nat} {stop : List Ent → Ent → Bool} {R : List Ent → HP} {D : List Ent → Ent → HP} (hon : YOk on N stop R D) {T b1 b2 : Nat} {L s : List Ent} {key : ByteArray} (hN : s.length + (fromL L key).length ≤ N) (hs : Sat w (tree T L :: R s :: pt b2 [.string key] 9 :: pt b1 [ptr T 0] 93 :: F)) :
    Ok (Fn Pg 124 [on, ptr b1 0, ptr b2 0] w) fun _ w' => Sat w' (tree T L :: St R D (feed stop s (fromL L key)) :: pt b2 [.string key] 9 :: pt b1 [ptr T 0] 93 :: F) ∧ Sm w w' := by
  obtain ⟨r, h, t, h1, h2, h3, h4, hs⟩ := tree_open hs
  rw [F124]; unfold S124
  refine Ok.rd (ld1 a25 hs 4 rfl) (Ok.rd2 (none_ok hs 0 rfl) (Ok.rd (un_not _) (Ok.ct rfl ?_)))
  have hd : Sat (drw w) (pt T [ptr r 0, int L.length] 154 :: tr h r t :: R s :: pt b2 [.string key] 9 :: pt b1 [ptr T 0] 93 :: F) := hs.drw
  refine Ok.rd (ld1 a25 hd 4 rfl) (Ok.rd (nil_ptr _ _) (Ok.rd (fld57_0 _ _) (Ok.rd (ld_root hd 0 rfl) (Ok.rd (ld1 a9 hd 3 rfl) ?_))))
  subst h3
  refine Ok.bind (walk_ok hon h r t s (drw w) _ hN h1 h4 (hd.re [1, 2, 0] (by decide))) ?_
  rintro x w1 ⟨_, g1, s1⟩
  exact ⟨_, _, rfl, tree_mk h1 h2 rfl h4 rfl (g1.re [2, 0, 1] (by decide)), s1.drw⟩

theorem each_none {on t : Value} {b1 b2 : Nat} {key : ByteArray} (hs : Sat w F) (k : Nat) (hk : F[k]? = some (pt b1 [t] 93)) (hn : Fn Pg 94 [t] w = some (.bool true, w)) :
    Ok (Fn Pg 124 [on, ptr b1 0, ptr b2 0] w) fun _ w' => w' = w := by
  rw [F124]; unfold S124
  refine Ok.rd (ld1 a25 hs k hk) (Ok.rd2 hn (Ok.rd (un_not _) (Ok.cf rfl ?_)))
  exact ⟨_, _, rfl, rfl⟩

/-! ### What is called with each entry, as a round -/

theorem yield_run {l f : Nat} {ts : Array Value} {ps : Array Tmp} {a b : Code} {D : Nat} {st : LoopState} {pd : Option Code} {args : List Value} (hs : w.heap[l]? = some (lp f ts ps a b D st pd)) (hl : args.length = ps.size) :
    callV (cx125 (Fn Pg) (Rnd Pg)) (.func (.yield l) #[] #[]) args w = Rnd Pg l f ((ps.zip args.toArray).foldl (fun tmps (t, a) => tmps.setIfInBounds t a) ts).toList a b w := by
  show yieldR _ l ([] ++ args) w = _
  unfold yieldR
  rw [hs]
  simp [hl, cx125]
theorem tab_len (N : Nat) (e : Env) : (tab N e).toList.length = N := by simp [tab]
theorem tab_get {N k j : Nat} {e : Env} {v : Value} (hj : j < N) (hk : k < N) : envL ((#[k].zip #[v]).foldl (fun tmps (t, a) => tmps.setIfInBounds t a) (tab N e)).toList j = if k = j then v else e j := by
  simp only [envL, List.size_toArray, List.zip_toArray, List.zip_cons_cons, List.zip_nil_right, List.foldl_toArray', List.foldl_cons, List.foldl_nil, tab]
  by_cases hkj : k = j
  · subst hkj
    simp [List.getD, hk]
  · simp [List.getD, List.getElem?_set, hj, hkj]
theorem tab_len' {N k : Nat} {e : Env} {v : Value} : ((#[k].zip #[v]).foldl (fun tmps (t, a) => tmps.setIfInBounds t a) (tab N e)).toList.length = N := by
  simp [tab]

/-! ### Next, In -/

abbrev zB : ByteArray := { data := #[0] }
theorem next_ok {key : ByteArray} (hk : key.size ≤ 2 ^ 62) : Fn Pg 54 [.string key] w = some (.string (key ++ zB), w) := by
  rw [F54]; unfold S54
  have : binG false Pg .add 9 (.tmp 0) (.const .nilFunc) (.string key) (.string zB) w = some (.string (key ++ zB), w) := by
    unfold binG binV
    have h1 : ¬ ((key.size + zB.size : Nat) : Int) > IntKind.i64.max := by
      have h2 : zB.size = 1 := rfl
      have h3 : IntKind.i64.max = 9223372036854775807 := rfl
      rw [h2, h3]; omega
    simp only [h1, if_false]
  rw [this]; rfl
theorem toL_next (key : ByteArray) : (key ++ zB).toList = key.toList ++ [0] := by
  rw [ByteArray.toList_eq, ByteArray.toList_eq, ByteArray.data_append]; simp
theorem kl_next (a b : ByteArray) : kl a (b ++ zB) = !kl b a := by
  unfold kl; rw [toL_next]; exact bl_next _ _
theorem from_next (L : List Ent) (key : ByteArray) : fromL L (key ++ zB) = upps L key := by
  unfold fromL upps
  congr 1
  funext e
  rw [kl_next]; simp

abbrev spC (f t : ByteArray) : List Value := [.string f, .string t]
theorem fld36_0 (b o : Nat) : fldA Pg 36 (ptr b o) 0 = some (ptr b o) := by kernel_rfl
theorem fld36_1 (b o : Nat) : fldA Pg 36 (ptr b o) 1 = some (ptr b (o + 1)) := by kernel_rfl
theorem ldsp0 {b : Nat} {f t : ByteArray} (h : Sat w F) (k : Nat) (hk : F[k]? = some (pt b (spC f t) 36)) : ldV Pg 9 (ptr b 0) w = some (.string f) := (ldV_sc a9 _ _).trans ((h.foc hk).at.cell 0)
theorem ldsp1 {b : Nat} {f t : ByteArray} (h : Sat w F) (k : Nat) (hk : F[k]? = some (pt b (spC f t) 36)) : ldV Pg 9 (ptr b (0 + 1)) w = some (.string t) := (ldV_sc a9 _ _).trans ((h.foc hk).at.cell 1)
theorem a36 : aggT Pg 36 = some true := by kernel_rfl
theorem i36 : ∃ i, Pg.info? 36 = some i ∧ i.size = 2 := sz_of (by kernel_rfl)
theorem ldsp {b : Nat} {f t : ByteArray} (h : Sat w F) (k : Nat) (hk : F[k]? = some (pt b (spC f t) 36)) : ldV Pg 36 (ptr b 0) w = some (.agg #[.string f, .string t]) := by
  obtain ⟨i', hi', hs⟩ := i36
  rw [at_load (h.foc hk).at (o := 0) (n := 2) (by simp) a36 hi' hs]; rfl

theorem ahead_ok {k t : ByteArray} : Fn Pg 91 [.string k, .string t] w = some (.bool (decide (t = ByteArray.empty) || kl k t), w) := by
  have : Ok (Fn Pg 91 [.string k, .string t] w) fun x w' => x = .bool (decide (t = ByteArray.empty) || kl k t) ∧ w' = w := by
    rw [F91]; unfold S91
    refine Ok.rd2 bin_seql ?_
    have he : decide (t = noB) = decide (t = ByteArray.empty) := rfl
    rw [he]
    cases hx : decide (t = ByteArray.empty) with
    | true => exact Ok.f0 (Ok.f0 (Ok.f0 (Ok.rd (pick_t _ _) ⟨_, _, rfl, rfl, rfl⟩)))
    | false => exact f_ok rfl rfl (f_ok rfl rfl (f_ok rfl (gr2 bin_slss) (Ok.rd (pick_f _ _) ⟨_, _, rfl, rfl, rfl⟩)))
  obtain ⟨x, w', h1, rfl, rfl⟩ := this
  exact h1

theorem in_ok {f t k : ByteArray} (hs : Sat w F) : Ok (Fn Pg 53 [.agg #[.string f, .string t], .string k] w) fun x w' => x = .bool (inB f t k) ∧ Sat w' F ∧ Sm w w' := by
  rw [F53]; unfold S53
  refine go_box (l := spC f t) rfl hs fun b w1 h1 s1 => ?_
  refine Ok.rd (fld36_0 _ _) (Ok.rd (ldsp0 h1 0 rfl) (Ok.rd2 bin_sgeq ?_))
  unfold inB
  cases hx : kl k f with
  | true =>
    refine t_no rfl (t_no rfl (t_no rfl (t_no rfl (pk_f rfl ?_))))
    exact ⟨_, _, rfl, rfl, h1.drop, s1⟩
  | false =>
    refine t_ok rfl rfl (t_ok rfl (by rw [fld36_1]; rfl) (t_ok rfl (by rw [ldsp1 h1 0 rfl]; rfl) (t_ok rfl (gr2 ahead_ok) (pk_t rfl ?_))))
    exact ⟨_, _, rfl, rfl, h1.drop, s1⟩

/-! ### After -/

def aftR (l r1 r2 : Nat) (ts : Array Value) (a b : Code) (d : Nat) : List Ent → HP := fun _ => stars [ob l (lp 74 ts #[11] a b d .ready none), pt r1 [.string noB] 9, pt r2 [.bool false] 4]
def aftD (l r1 r2 : Nat) (ts : Array Value) (a b : Code) (d : Nat) : List Ent → Ent → HP := fun _ e => stars [ob l (lp 74 ts #[11] a b d .done (some .ret)), pt r1 [.string e.1] 9, pt r2 [.bool true] 4]

theorem aft_yield {l r1 r2 d N : Nat} {e0 : Env} (h4 : e0 4 = ptr r1 0) (h5 : e0 5 = ptr r2 0) :
    YOk (.func (.yield l) #[] #[]) N (fun _ _ => true) (aftR l r1 r2 (tab 14 e0) (cdA Go.Proofs.Try.f74 [1, 0, 1, 0, 0]) (cdA Go.Proofs.Try.f74 [1, 0, 1, 0, 1]) d) (aftD l r1 r2 (tab 14 e0) (cdA Go.Proofs.Try.f74 [1, 0, 1, 0, 0]) (cdA Go.Proofs.Try.f74 [1, 0, 1, 0, 1]) d) := by
  intro s x w F _ hs
  have hs : Sat w (ob l (lp 74 (tab 14 e0) #[11] (cdA Go.Proofs.Try.f74 [1, 0, 1, 0, 0]) (cdA Go.Proofs.Try.f74 [1, 0, 1, 0, 1]) d .ready none) :: pt r1 [.string noB] 9 :: pt r2 [.bool false] 4 :: F) := Sat.flat.1 hs
  rw [yield_run hs.obAt rfl, R74_1 w tab_len']
  have g11 := tab_get (N := 14) (k := 11) (j := 11) (e := e0) (v := aggE x) (by decide) (by decide)
  have g4 := tab_get (N := 14) (k := 11) (j := 4) (e := e0) (v := aggE x) (by decide) (by decide)
  have g5 := tab_get (N := 14) (k := 11) (j := 5) (e := e0) (v := aggE x) (by decide) (by decide)
  rw [if_pos rfl] at g11
  rw [if_neg (by decide)] at g4 g5
  unfold S74_R1
  rw [show (([aggE x] : List Value).toArray) = #[aggE x] from rfl, g11, g4, g5, h4, h5]
  refine go_tmp hs fun nb w1 t1 s1 => ?_
  refine go_beg t1.sw fun w2 t2 s2 => ?_
  refine Ok.rd (fld40_0 _ _) (Ok.rd (ld_key t2 1 rfl) ?_)
  obtain ⟨w3, m3, t3, s3⟩ := st9 (u := .string x.1) t2 2 rfl rfl
  refine Ok.rd2 m3 ?_
  obtain ⟨w4, m4, t4, s4⟩ := st4 (u := .bool true) t3 3 rfl rfl
  refine Ok.rd2 m4 ?_
  refine go_fin t4 fun w5 t5 s5 => ?_
  refine ⟨rfl, (Sat.flat (G := [_, _, _])).2 ?_, s1.trans (s2.trans (s3.trans (s4.trans s5)))⟩
  exact ((t5.re [1, 0, 2, 3] (by decide)).drop)

/-- the first key above a text. -/
def aftV (L : List Ent) (key : ByteArray) : Value := match (upps L key).head? with
  | some e => .tuple #[.string e.1, .bool true]
  | none => .tuple #[.string noB, .bool false]
theorem after_ok {T : Nat} {L : List Ent} {key : ByteArray} (hk : key.size ≤ 2 ^ 62) (hs : Sat w (tree T L :: F)) :
    Ok (Fn Pg 74 [ptr T 0, .string key] w) fun v w' => v = aftV L key ∧ Sat w' (tree T L :: F) ∧ Sm w w' := by
  rw [F74]; unfold S74
  refine go_new z9 hs fun r1 w1 t1 s1 => ?_
  refine go_new z4 t1 fun r2 w2 t2 s2 => ?_
  refine Ok.rd2 (next_ok hk) ?_
  refine go_from rfl t2 fun b1 b2 w3 t3 s3 => ?_
  refine go_rng rfl (by kernel_rfl) rfl t3 fun d l w4 t4 s4 => ?_
  have hcall : ∀ (a b : Value) (w : World), callV (cx74 (Fn Pg) (Rnd Pg)) (frV b1 b2) [a] w = Fn Pg 124 [a, ptr b1 0, ptr b2 0] w := fun _ _ _ => rfl
  rw [hcall _ undef]
  obtain ⟨e0, he0⟩ : ∃ e0 : Env, e0 = upd (upd (upd (upd (upd (upd (envL [ptr T 0, Value.string key]) 4 (ptr r1 0)) 5 (ptr r2 0)) 7 (ptr T 0)) 8 (Value.string key)) 9 (Value.string (key ++ zB))) 10 (frV b1 b2) := ⟨_, rfl⟩
  rw [← he0] at t4 ⊢
  have h4 : e0 4 = ptr r1 0 := by rw [he0]; rfl
  have h5 : e0 5 = ptr r2 0 := by rw [he0]; rfl
  have t5 : Sat w4 (tree T L :: aftR l r1 r2 (tab 14 e0) (cdA Go.Proofs.Try.f74 [1, 0, 1, 0, 0]) (cdA Go.Proofs.Try.f74 [1, 0, 1, 0, 1]) d [] :: pt b2 [.string (key ++ zB)] 9 :: pt b1 [ptr T 0] 93 :: ob d (.deferred (some [])) :: F) := by
    refine Sat.sw ((Sat.flat (G := [_, _, _])).2 ?_)
    exact t4.re [0, 5, 4, 6, 2, 3, 1] (by decide)
  refine Ok.mono (each_ok (aft_yield h4 h5) (Nat.le_refl _) t5) ?_
  rintro _ w5 ⟨t6, s5⟩
  rw [from_next] at t6
  unfold aftV
  match hX : upps L key, t6 with
  | [], t6 =>
    have t6 : Sat w5 (tree T L :: aftR l r1 r2 (tab 14 e0) (cdA Go.Proofs.Try.f74 [1, 0, 1, 0, 0]) (cdA Go.Proofs.Try.f74 [1, 0, 1, 0, 1]) d [] :: pt b2 [.string (key ++ zB)] 9 :: pt b1 [ptr T 0] 93 :: ob d (.deferred (some [])) :: F) := t6
    have t7 := Sat.flat.1 t6.sw
    refine end_norm t7 fun w6 t8 s6 => ?_
    rw [S74_N1_eq]; unfold S74_N1
    have e4 : upd e0 (cx74 (Fn Pg) (Rnd Pg)).N (.map (some d)) 4 = ptr r1 0 := h4
    have e5 : upd e0 (cx74 (Fn Pg) (Rnd Pg)).N (.map (some d)) 5 = ptr r2 0 := h5
    have e14 : upd e0 (cx74 (Fn Pg) (Rnd Pg)).N (.map (some d)) 14 = .map (some d) := rfl
    rw [e4, e5, e14]
    obtain ⟨w7, m7, t9, s7⟩ := st9 (u := .string noB) t8 0 rfl rfl
    refine Ok.rd2 m7 ?_
    obtain ⟨w8, m8, t10, s8⟩ := st4 (u := .bool false) t9 1 rfl rfl
    refine Ok.rd2 m8 ?_
    refine go_shut (t10.re [5, 0, 1, 2, 3, 4] (by decide)) fun w9 t11 s9 => ?_
    refine Ok.rd (ld1 a9 t11 0 rfl) (Ok.rd (ld1 a4 t11 1 rfl) ?_)
    refine ⟨_, _, rfl, rfl, (t11.re [0, 1, 3, 4, 2] (by decide)).drop.drop.drop.drop, ?_⟩
    exact s1.trans (s2.trans (s3.trans (s4.trans (s5.trans (s6.trans (s7.trans (s8.trans s9)))))))
  | x :: X, t6 =>
    have t6 : Sat w5 (tree T L :: aftD l r1 r2 (tab 14 e0) (cdA Go.Proofs.Try.f74 [1, 0, 1, 0, 0]) (cdA Go.Proofs.Try.f74 [1, 0, 1, 0, 1]) d [] x :: pt b2 [.string (key ++ zB)] 9 :: pt b1 [ptr T 0] 93 :: ob d (.deferred (some [])) :: F) := t6
    have t7 := Sat.flat.1 t6.sw
    refine end_ret t7 fun w6 t8 s6 => ?_
    rw [S74_T1_eq]; unfold S74_T1
    have e4 : upd e0 (cx74 (Fn Pg) (Rnd Pg)).N (.map (some d)) 4 = ptr r1 0 := h4
    have e5 : upd e0 (cx74 (Fn Pg) (Rnd Pg)).N (.map (some d)) 5 = ptr r2 0 := h5
    have e14 : upd e0 (cx74 (Fn Pg) (Rnd Pg)).N (.map (some d)) 14 = .map (some d) := rfl
    rw [e4, e5, e14]
    refine go_shut (t8.re [5, 0, 1, 2, 3, 4] (by decide)) fun w9 t11 s9 => ?_
    refine Ok.rd (ld1 a9 t11 0 rfl) (Ok.rd (ld1 a4 t11 1 rfl) ?_)
    refine ⟨_, _, rfl, rfl, (t11.re [0, 1, 3, 4, 2] (by decide)).drop.drop.drop.drop, ?_⟩
    exact s1.trans (s2.trans (s3.trans (s4.trans (s5.trans (s6.trans s9)))))
end Go.Cb

/-
  Walk: the entries in a span, so many.
-/
set_option linter.unusedVariables false
set_option linter.unusedSimpArgs false
namespace Go.Cb
variable {w : World} {F : List HP} {Q Q' : Value → World → Prop}

/-- what a round of Walk holds. -/
def wkH (l c7 c4 c5 : Nat) (ts : Array Value) (d : Nat) (f t : ByteArray) (m : Int) (st : LoopState) (pd : Option Code) (s : List Ent) : HP := fun h => ∃ ov,
  stars [ob l (lp 99 ts #[13] (cdA Go.Proofs.Try.f99 [1, 1, 0, 1, 0, 0]) (cdA Go.Proofs.Try.f99 [1, 1, 0, 1, 0, 1]) d st pd), pt c7 [ov] 149, slH 160 2 encE ov s, pt c4 (spC f t) 36, pt c5 [int m] 3] h
def wkR (l c7 c4 c5 : Nat) (ts : Array Value) (d : Nat) (f t : ByteArray) (m : Int) : List Ent → HP := fun s => wkH l c7 c4 c5 ts d f t m .ready none s
def wkD (l c7 c4 c5 : Nat) (ts : Array Value) (d : Nat) (f t : ByteArray) (m : Int) : List Ent → Ent → HP := fun s _ => wkH l c7 c4 c5 ts d f t m .done (some (.exit 0)) s

theorem wk_open {l c7 c4 c5 : Nat} {ts : Array Value} {d : Nat} {f t : ByteArray} {m : Int} {st : LoopState} {pd : Option Code} {s : List Ent} (hs : Sat w (wkH l c7 c4 c5 ts d f t m st pd s :: F)) :
    ∃ ov, Sat w (ob l (lp 99 ts #[13] (cdA Go.Proofs.Try.f99 [1, 1, 0, 1, 0, 0]) (cdA Go.Proofs.Try.f99 [1, 1, 0, 1, 0, 1]) d st pd) :: pt c7 [ov] 149 :: slH 160 2 encE ov s :: pt c4 (spC f t) 36 :: pt c5 [int m] 3 :: F) := by
  obtain ⟨ov, h⟩ := Sat.ex.1 hs
  exact ⟨ov, Sat.flat.1 h⟩
theorem wk_mk {l c7 c4 c5 : Nat} {ts : Array Value} {d : Nat} {f t : ByteArray} {m : Int} {st : LoopState} {pd : Option Code} {s : List Ent} {ov : Value}
    (hs : Sat w (ob l (lp 99 ts #[13] (cdA Go.Proofs.Try.f99 [1, 1, 0, 1, 0, 0]) (cdA Go.Proofs.Try.f99 [1, 1, 0, 1, 0, 1]) d st pd) :: pt c7 [ov] 149 :: slH 160 2 encE ov s :: pt c4 (spC f t) 36 :: pt c5 [int m] 3 :: F)) :
    Sat w (wkH l c7 c4 c5 ts d f t m st pd s :: F) := Sat.ex.2 ⟨ov, (Sat.flat (G := [_, _, _, _, _])).2 hs⟩

theorem wk_yield {l c7 c4 c5 d : Nat} {e0 : Env} {f t : ByteArray} {m : Int} (h7 : e0 7 = ptr c7 0) (h4 : e0 4 = ptr c4 0) (h5 : e0 5 = ptr c5 0) {N : Nat} (hN : N ≤ 2 ^ 28) :
    YOk (.func (.yield l) #[] #[]) N (stopW m f t) (wkR l c7 c4 c5 (tab 30 e0) d f t m) (wkD l c7 c4 c5 (tab 30 e0) d f t m) := by
  intro s x w F hsl hs
  obtain ⟨ov, hs⟩ := wk_open hs
  rw [yield_run hs.obAt rfl, R99_1 w tab_len']
  have g13 := tab_get (N := 30) (k := 13) (j := 13) (e := e0) (v := aggE x) (by decide) (by decide)
  have g4 := tab_get (N := 30) (k := 13) (j := 4) (e := e0) (v := aggE x) (by decide) (by decide)
  have g5 := tab_get (N := 30) (k := 13) (j := 5) (e := e0) (v := aggE x) (by decide) (by decide)
  have g7 := tab_get (N := 30) (k := 13) (j := 7) (e := e0) (v := aggE x) (by decide) (by decide)
  rw [if_pos rfl] at g13
  rw [if_neg (by decide)] at g4 g5 g7
  unfold S99_R1
  rw [show (([aggE x] : List Value).toArray) = #[aggE x] from rfl, g13, g4, g5, g7, h4, h5, h7]
  refine go_tmp hs fun nb w1 t1 s1 => ?_
  refine go_beg t1.sw fun w2 t2 s2 => ?_
  refine Ok.rd (ld1 a37 t2 2 rfl) (Ok.rd2 (sl_len T37 (t2.foc (k := 3) rfl) w2) (Ok.rd (ld1 a3 t2 5 rfl) (Ok.rd2 bin_geq ?_)))
  by_cases hx : m ≤ (s.length : Int)
  · have hx' : decide (m ≤ (s.length : Int)) = true := by simpa using hx
    have hst : stopW m f t s x = true := by simp [stopW, hx]
    rw [hx']
    refine Ok.f0 (Ok.f0 (Ok.f0 (Ok.f0 (Ok.f0 (Ok.rd (pick_t _ _) (Ok.ct rfl ?_))))))
    refine go_fin t2 fun w3 t3 s3 => ?_
    rw [hst]
    exact ⟨rfl, wk_mk (t3.re [1, 0, 2, 3, 4, 5] (by decide)).drop, s1.trans (s2.trans s3)⟩
  · have hx' : decide (m ≤ (s.length : Int)) = false := by simpa using hx
    rw [hx']
    refine f_ok rfl (by rw [ldsp t2 4 rfl]; rfl) (f_ok rfl (by rw [fld40_0]; rfl) (f_ok rfl (by rw [ld_key t2 1 rfl]; rfl) ?_))
    refine f_call rfl (in_ok t2) ?_
    rintro y w3 ⟨rfl, t3, s3⟩
    refine f_ok rfl (by rw [un_not]; rfl) (Ok.rd (pick_f _ _) ?_)
    cases hi : inB f t x.1 with
    | false =>
      have hst : stopW m f t s x = true := by simp [stopW, hi]
      refine Ok.ct rfl (go_fin t3 fun w4 t4 s4 => ?_)
      rw [hst]
      exact ⟨rfl, wk_mk (t4.re [1, 0, 2, 3, 4, 5] (by decide)).drop, s1.trans (s2.trans (s3.trans s4))⟩
    | true =>
      have hst : stopW m f t s x = false := by simp [stopW, hi, hx']
      refine Ok.cf rfl ?_
      refine Ok.rd (ld1 a37 t3 2 rfl) (Ok.rd (ld_ent t3 1 rfl) ?_)
      refine go_bs1 T37 enE (by decide) (x := x) rfl t3 fun nb2 w4 t4 hv4 s4 => ?_
      refine go_app T37 enE t4 4 rfl hv4 (by simp; omega) fun a5 w5 t5 s5 => ?_
      obtain ⟨w6, m6, t6, s6⟩ := st37 (u := a5) t5 3 rfl (one_slH t5 4 rfl)
      refine Ok.rd2 m6 ?_
      have t6 : Sat w6 (pt nb2 (encE x) 160 :: ob l (lp 99 (tab 30 e0) #[13] (cdA Go.Proofs.Try.f99 [1, 1, 0, 1, 0, 0]) (cdA Go.Proofs.Try.f99 [1, 1, 0, 1, 0, 1]) d .busy none) :: pt nb (encE x) 160 :: pt c7 [a5] 149 :: slH 160 2 encE a5 (s ++ [x]) :: pt c4 (spC f t) 36 :: pt c5 [int m] 3 :: F) := t6
      refine go_fin t6.drop fun w7 t7 s7 => ?_
      rw [hst]
      exact ⟨rfl, wk_mk (t7.re [1, 0, 2, 3, 4, 5] (by decide)).drop, s1.trans (s2.trans (s3.trans (s4.trans (s5.trans (s6.trans s7)))))⟩

theorem twalk_ok {T : Nat} {L : List Ent} {f t : ByteArray} {m : Int} (hs : Sat w (tree T L :: F)) (hl : L.length ≤ 2 ^ 28) :
    Ok (Fn Pg 99 [ptr T 0, .agg #[.string f, .string t], int m] w) fun v w' => Sat w' (slH 160 2 encE v (walkL L f t m) :: tree T L :: F) ∧ Sm w w' := by
  have hsrt : Srt L := by obtain ⟨_, _, _, _, _, _, h4, _⟩ := tree_open hs; exact h4
  rw [F99]; unfold S99
  refine go_box (l := spC f t) rfl hs fun c4 w1 t1 s1 => ?_
  refine go_box (l := [int m]) rfl t1 fun c5 w2 t2 s2 => ?_
  refine go_new z37 t2 fun c7 w3 t3 s3 => ?_
  refine Ok.rd (fld36_0 _ _) (Ok.rd (ldsp0 t3 2 rfl) ?_)
  refine go_from rfl t3 fun b1 b2 w4 t4 s4 => ?_
  refine go_rng rfl (by kernel_rfl) rfl t4 fun d l w5 t5 s5 => ?_
  have hcall : ∀ (a b : Value) (w : World), callV (cx99 (Fn Pg) (Rnd Pg)) (frV b1 b2) [a] w = Fn Pg 124 [a, ptr b1 0, ptr b2 0] w := fun _ _ _ => rfl
  rw [hcall _ undef]
  obtain ⟨e0, he0⟩ : ∃ e0 : Env, e0 = upd (upd (upd (upd (upd (upd (upd (upd (envL [ptr T 0, Value.agg #[.string f, .string t], int m]) 4 (ptr c4 0)) 5 (ptr c5 0)) 6 (.slice none 0 0)) 7 (ptr c7 0)) 9 (ptr T 0)) 10 (ptr c4 0)) 11 (.string f)) 12 (frV b1 b2) := ⟨_, rfl⟩
  rw [← he0] at t5 ⊢
  have h4 : e0 4 = ptr c4 0 := by rw [he0]; rfl
  have h5 : e0 5 = ptr c5 0 := by rw [he0]; rfl
  have h7 : e0 7 = ptr c7 0 := by rw [he0]; rfl
  have t6 : Sat w5 (tree T L :: wkR l c7 c4 c5 (tab 30 e0) d f t m [] :: pt b2 [.string f] 9 :: pt b1 [ptr T 0] 93 :: ob d (.deferred (some [])) :: F) := by
    refine Sat.sw (wk_mk (ov := .slice none 0 0) ?_)
    have := (slH_nil (T := 160) (k := 2) (enc := encE) none t5).re [1, 5, 0, 7, 6, 8, 3, 4, 2] (by decide)
    exact this
  refine Ok.mono (each_ok (wk_yield h7 h4 h5 (N := (fromL L f).length) (Nat.le_trans (List.length_filter_le _ _) hl)) (by simp) t6) ?_
  rintro _ w6 ⟨t7, s6⟩
  have hfl := feed_walk (m := m) (f := f) (t := t) hsrt
  have e7 : upd e0 (cx99 (Fn Pg) (Rnd Pg)).N (.map (some d)) 7 = ptr c7 0 := h7
  have e30 : upd e0 (cx99 (Fn Pg) (Rnd Pg)).N (.map (some d)) 30 = .map (some d) := rfl
  have sall := s1.trans (s2.trans (s3.trans (s4.trans (s5.trans s6))))
  rcases hX : feed (stopW m f t) [] (fromL L f) with ⟨s, o⟩
  rw [hX] at t7 hfl
  have hfl : s = walkL L f t m := hfl
  subst hfl
  cases o with
  | none =>
    obtain ⟨ov, t8⟩ := wk_open t7.sw
    refine end_norm t8 fun w7 t9 s7 => ?_
    rw [S99_N1_eq]; unfold S99_N1
    rw [e7, e30]
    refine Ok.rd (ld1 a37 t9 0 rfl) ?_
    refine go_shut (t9.re [7, 0, 1, 2, 3, 4, 5, 6] (by decide)) fun w8 t10 s8 => ?_
    exact ⟨_, _, rfl, (t10.re [0, 2, 3, 5, 6, 1, 4] (by decide)).drop.drop.drop.drop.drop, sall.trans (s7.trans s8)⟩
  | some x =>
    obtain ⟨ov, t8⟩ := wk_open t7.sw
    refine end_exit t8 fun w7 t9 s7 => ?_
    rw [S99_X0_1_eq]; unfold S99_X0_1
    rw [e7, e30]
    refine Ok.rd (ld1 a37 t9 0 rfl) ?_
    refine go_shut (t9.re [7, 0, 1, 2, 3, 4, 5, 6] (by decide)) fun w8 t10 s8 => ?_
    exact ⟨_, _, rfl, (t10.re [0, 2, 3, 5, 6, 1, 4] (by decide)).drop.drop.drop.drop.drop, sall.trans (s7.trans s8)⟩
end Go.Cb

/-
  copied and Copy: a tree like one.
-/
set_option linter.unusedVariables false
set_option linter.unusedSimpArgs false
namespace Go.Cb
variable {w : World} {F : List HP} {Q Q' : Value → World → Prop}

theorem bld100_l (a : Option Addr) (n c : Nat) : bldV Pg 152 [(0, .slice a n c)] = some (.agg #[.slice a n c, .slice none 0 0]) := by kernel_rfl
theorem bld57_2 (r : Nat) (n : Int) : bldV Pg 154 [(0, ptr r 0), (1, int n)] = some (.agg #[ptr r 0, int n]) := by kernel_rfl

theorem cp_in {h : Nat} {X Y : List HP} {q1 q2 : List (Nat × BT h)} {q : Nat × BT h} : Sat w (X ++ (Y ++ (fo h (q1 ++ q :: q2) ++ F))) ↔ Sat w (tr h q.1 q.2 :: (X ++ (Y ++ (fo h (q1 ++ q2) ++ F)))) := by
  have hp : (X ++ (Y ++ (fo h (q1 ++ q :: q2) ++ F))).Perm (tr h q.1 q.2 :: (X ++ (Y ++ (fo h (q1 ++ q2) ++ F)))) := by
    rw [fo_app, fo_cons, fo_app, List.append_assoc, List.cons_append, List.append_assoc]
    rw [← List.append_assoc, ← List.append_assoc, ← List.append_assoc (bs := Y), ← List.append_assoc (bs := fo h q1)]
    exact List.perm_middle
  exact ⟨fun hs => hs.perm hp, fun hs => hs.perm hp.symm⟩
theorem cp_back {A : HP} {X Y Z : List HP} (hs : Sat w (A :: (X ++ (Y ++ Z)))) : Sat w (X ++ ((Y ++ [A]) ++ Z)) := by
  refine hs.perm ?_
  rw [List.append_assoc, ← List.append_assoc, ← List.append_assoc]
  exact List.perm_middle.symm

theorem copied_loop {h : Nat} {p c : Nat} {l : List Ent} {lv kv lv2 : Value} {qs : List (Nat × BT h)} (hb : qs.length ≤ 2 ^ 20)
    (ih : ∀ q ∈ qs, ∀ (w : World) (F : List HP), Sat w (tr h q.1 q.2 :: F) → Ok (Fn Pg 109 [ptr q.1 0] w) fun v w' => ∃ q', v = ptr q' 0 ∧ Sat w' (tr h q' q.2 :: tr h q.1 q.2 :: F) ∧ Sm w w') :
    ∀ (r1 r2 dq : List (Nat × BT h)) (kv2 : Value) (e : Env) (w : World) (F : List HP), qs = r1 ++ r2 → dq.map (·.2) = r1.map (·.2) →
    Sat w ([pt c [lv2, kv2] 152, slH 160 2 encE lv2 l, slH 148 1 encP kv2 (dq.map (·.1)), pt p [lv, kv] 152, slH 160 2 encE lv l, slH 148 1 encP kv (qs.map (·.1))] ++ (fo h dq ++ (fo h qs ++ F))) →
    e 3 = ptr c 0 → e 16 = kv → e 17 = int qs.length → e 18 = int r1.length → e 35 = undef →
    Ok (evalLoop (cx109 (Fn Pg) (Rnd Pg)) (cdA Go.Proofs.Try.f109 [1, 1, 0, 1, 0, 0]) (K109_2 (Fn Pg) (Rnd Pg)) e w) fun v w' => v = ptr c 0 ∧ Sm w w' ∧ ∃ (dq : List (Nat × BT h)) (kv2 : Value), dq.map (·.2) = qs.map (·.2) ∧
      Sat w' ([pt c [lv2, kv2] 152, slH 160 2 encE lv2 l, slH 148 1 encP kv2 (dq.map (·.1)), pt p [lv, kv] 152, slH 160 2 encE lv l, slH 148 1 encP kv (qs.map (·.1))] ++ (fo h dq ++ (fo h qs ++ F))) := by
  intro r1 r2
  induction r2 generalizing r1 with
  | nil =>
    intro dq kv2 e w F hq hd hs e3 e16 e17 e18 e35
    rw [S109_L1_eq]; unfold S109_L1
    rw [e3, e16, e17, e18, e35]
    refine Ok.rd2 bin_lss (Ok.cf (by rw [hq]; simp) ?_)
    exact ⟨_, _, rfl, rfl, Sm.refl _, dq, kv2, by rw [hd, hq]; simp, hs⟩
  | cons q r2 ihr =>
    intro dq kv2 e w F hq hd hs e3 e16 e17 e18 e35
    rw [S109_L1_eq]; unfold S109_L1
    rw [e3, e16, e17, e18, e35]
    refine Ok.rd2 bin_lss (Ok.ct (by rw [hq]; simp; omega) ?_)
    obtain ⟨b, o, g1, g2⟩ := ix_k hs 5 rfl (i := r1.length) (q := q.1) (by rw [hq]; simp)
    refine Ok.rd g1 (Ok.rd g2 ?_)
    have hdr := hs.drw
    refine Ok.rd (nil_ptr _ _) (Ok.rd (fld100_1 _ _) (Ok.rd (ld_k hdr 0 rfl) ?_))
    rw [hq] at hdr
    refine Ok.bind (ih q (by rw [hq]; simp) (drw w) _ (cp_in.1 hdr)) ?_
    rintro v w1 ⟨q', rfl, h1, s1⟩
    refine Ok.chk (show ldV Pg 150 (ptr c (0 + 1)) w1 = some kv2 from ld_k h1 2 rfl) ?_
    refine go_bs1 T98 enP (by decide) (x := q') rfl h1 fun nb w2 h2 hv2 s2 => ?_
    have hdl : dq.length = r1.length := by have := congrArg List.length hd; simpa using this
    have hrl : r1.length ≤ 2 ^ 20 := by rw [hq] at hb; simp at hb; omega
    refine go_app T98 enP h2 5 rfl hv2 (by simp; omega) fun a w3 h3 s3 => ?_
    refine Ok.rd (nil_ptr _ _) (Ok.rd (fld100_1 _ _) ?_)
    obtain ⟨w4, m4, h4, s4⟩ := st_k h3 3 rfl (one_slH h3 5 rfl)
    refine Ok.rd2 m4 (Ok.rd2 (bin_add1 (by omega)) ?_)
    have h4 : Sat w4 (pt nb (encP q') 148 :: tr h q' q.2 :: tr h q.1 q.2 :: ([pt c [lv2, a] 152, slH 160 2 encE lv2 l, slH 148 1 encP a (dq.map (·.1) ++ [q']), pt p [lv, kv] 152, slH 160 2 encE lv l, slH 148 1 encP kv ((r1 ++ q :: r2).map (·.1))] ++ (fo h dq ++ (fo h (r1 ++ r2) ++ F)))) := h4
    have h5 := (cp_in (X := tr h q' q.2 :: [pt c [lv2, a] 152, slH 160 2 encE lv2 l, slH 148 1 encP a (dq.map (·.1) ++ [q']), pt p [lv, kv] 152, slH 160 2 encE lv l, slH 148 1 encP kv ((r1 ++ q :: r2).map (·.1))])).2 h4.drop.sw
    have h6 := cp_back (X := [_, _, _, _, _, _]) h5
    have hm : dq.map (·.1) ++ [q'] = (dq ++ [(q', q.2)]).map (·.1) := by simp
    have hf : fo h dq ++ [tr h q' q.2] = fo h (dq ++ [(q', q.2)]) := by rw [fo_app]; rfl
    rw [hm, hf, ← hq] at h6
    refine Ok.mono (ihr (r1 ++ [q]) (dq ++ [(q', q.2)]) a _ w4 F (by rw [hq]; simp) (by simp [hd]) h6 ?_ ?_ ?_ ?_ ?_) ?_
    · exact e3
    · exact e16
    · exact e17
    · show int _ = int _; simp
    · exact e35
    · rintro v w5 ⟨m1, m2, m3⟩
      exact ⟨m1, (s1.drw.trans (s2.trans (s3.trans s4))).trans m2, m3⟩

theorem copied_ok : ∀ (h p : Nat) (t : BT h) (w : World) (F : List HP), wf h t → Sat w (tr h p t :: F) → Ok (Fn Pg 109 [ptr p 0] w) fun v w' => ∃ q, v = ptr q 0 ∧ Sat w' (tr h q t :: tr h p t :: F) ∧ Sm w w' := by
  intro h
  induction h with
  | zero =>
    intro p (t : List Ent) w F hw hs
    have hs : Sat w (nd p t [] :: F) := hs
    have hw : List.length t ≤ 5 := hw
    obtain ⟨lv, kv, hs⟩ := nd_open hs
    rw [F109]; unfold S109
    refine Ok.rd (nil_ptr _ _) (Ok.rd (fld100_0 _ _) (Ok.rd (ld_l hs 0 rfl) ?_))
    refine go_clonel hs (slH_src (hs.foc (k := 1) rfl)) (by omega) fun v w1 h1 s1 => ?_
    obtain ⟨pa, ca, rfl, _⟩ := slH_len h1
    refine Ok.rd (bld100_l _ _ _) ?_
    refine go_box100 rfl rfl h1 fun c w2 h2 s2 => ?_
    refine Ok.rd (nil_ptr _ _) (Ok.rd (fld100_1 _ _) (Ok.rd (ld_k h2 2 rfl) (Ok.rd2 (sl_len T98 (h2.foc (k := 4) rfl) w2) ?_)))
    have h3 := (slH_nil (T := 148) (k := 1) (enc := encP) none h2).re [1, 2, 0, 3, 4, 5] (by decide)
    refine Ok.mono (copied_loop (h := 0) (qs := []) (by simp) (fun q hq => by simp at hq) [] [] [] (.slice none 0 0) _ w2 F rfl rfl h3 rfl rfl rfl rfl rfl) ?_
    rintro v w3 ⟨rfl, s3, dq, kv2, hd, h4⟩
    have hd : dq = [] := by simpa using hd
    subst hd
    refine ⟨c, rfl, ?_, s1.trans (s2.trans s3)⟩
    have h5 : Sat w3 (nd c t [] :: pt p [lv, kv] 152 :: slH 160 2 encE lv t :: slH 148 1 encP kv ([] : List Nat) :: F) := nd_mk h4
    exact (nd_mk (h5.re [1, 2, 3, 0] (by decide))).sw
  | succ h ih =>
    intro p t w F hw hs
    obtain ⟨l, ks⟩ := t
    have hl5 : l.length ≤ 5 := hw.1
    have hkl : ks.length = l.length + 1 := hw.2.1
    obtain ⟨qs, hq, hs0⟩ := tr_open1 hs
    clear hs
    have hq : qs.map (·.2) = ks := hq
    have hqs : qs.length = l.length + 1 := by rw [← hkl, ← hq, List.length_map]
    subst hq
    have hkids : ∀ q ∈ qs, wf h q.2 ∧ 2 ≤ (ents h q.2).length := fun q hm => wf_kid hw (List.mem_map_of_mem hm)
    have hs0 : Sat w (nd p l (qs.map (·.1)) :: (fo h qs ++ F)) := hs0
    obtain ⟨lv, kv, hs⟩ := nd_open hs0
    rw [F109]; unfold S109
    refine Ok.rd (nil_ptr _ _) (Ok.rd (fld100_0 _ _) (Ok.rd (ld_l hs 0 rfl) ?_))
    refine go_clonel hs (slH_src (hs.foc (k := 1) rfl)) (by omega) fun v w1 h1 s1 => ?_
    obtain ⟨pa, ca, rfl, _⟩ := slH_len h1
    refine Ok.rd (bld100_l _ _ _) ?_
    refine go_box100 rfl rfl h1 fun c w2 h2 s2 => ?_
    refine Ok.rd (nil_ptr _ _) (Ok.rd (fld100_1 _ _) (Ok.rd (ld_k h2 2 rfl) (Ok.rd2 (sl_len T98 (h2.foc (k := 4) rfl) w2) ?_)))
    have h3 := (slH_nil (T := 148) (k := 1) (enc := encP) none h2).re [1, 2, 0, 3, 4, 5] (by decide)
    refine Ok.mono (copied_loop (h := h) (qs := qs) (by omega) (fun q hq w F hs => ih q.1 q.2 w F (hkids q hq).1 hs) [] qs [] (.slice none 0 0) _ w2 F rfl rfl h3 rfl rfl (by show int _ = int _; simp) rfl rfl) ?_
    rintro v w3 ⟨rfl, s3, dq, kv2, hd, h4⟩
    refine ⟨c, rfl, ?_, s1.trans (s2.trans s3)⟩
    have h5 : Sat w3 (nd c l (dq.map (·.1)) :: pt p [lv, kv] 152 :: slH 160 2 encE lv l :: slH 148 1 encP kv (qs.map (·.1)) :: (fo h dq ++ (fo h qs ++ F))) := nd_mk h4
    have h6 := nd_mk (h5.re [1, 2, 3, 0] (by decide))
    have h6 : Sat w3 (nd p l (qs.map (·.1)) :: nd c l (dq.map (·.1)) :: (fo h dq ++ (fo h qs ++ F))) := h6
    have h7 : Sat w3 (nd p l (qs.map (·.1)) :: (fo h qs ++ (nd c l (dq.map (·.1)) :: (fo h dq ++ F)))) := by
      refine h6.perm (List.Perm.cons _ ?_)
      refine (List.Perm.cons _ ?_).trans List.perm_middle.symm
      rw [← List.append_assoc, ← List.append_assoc]
      exact List.Perm.append_right _ List.perm_append_comm
    have h8 := tr_mk1 h7
    have h9 : Sat w3 (nd c l (dq.map (·.1)) :: (fo h dq ++ (tr (h + 1) p (l, qs.map (·.2)) :: F))) := by
      refine h8.perm ?_
      exact (List.perm_middle (l₁ := _ :: _) (l₂ := F)).symm
    have h10 := tr_mk1 h9
    rw [hd] at h10
    exact h10

theorem tcopy_ok {T : Nat} {L : List Ent} (hs : Sat w (tree T L :: F)) : Ok (Fn Pg 78 [ptr T 0] w) fun v w' => ∃ U, v = ptr U 0 ∧ Sat w' (tree U L :: tree T L :: F) ∧ Sm w w' := by
  obtain ⟨r, h, t, h1, h2, h3, h4, hs⟩ := tree_open hs
  rw [F78]; unfold S78
  refine Ok.rd2 (none_ok hs 0 rfl) (Ok.cf rfl ?_)
  have hd := hs.drw
  refine Ok.rd (nil_ptr _ _) (Ok.rd (fld57_0 _ _) (Ok.rd (ld_root hd 0 rfl) ?_))
  refine Ok.bind (copied_ok h r t (drw w) _ h1 hd.sw) ?_
  rintro v w1 ⟨q, rfl, g1, s1⟩
  refine Ok.rd (nil_ptr _ _) (Ok.rd (fld57_1 _ _) (Ok.rd (ld_num g1 2 rfl) ?_))
  refine Ok.chk (show ldV Pg 3 (ptr T (0 + 1)) (drw w) = some (int L.length) from ld_num hd 0 rfl) ?_
  refine Ok.rd (bld57_2 _ _) ?_
  refine go_box (l := [ptr q 0, int L.length]) rfl g1 fun U w2 g2 s2 => ?_
  refine ⟨_, _, rfl, U, rfl, ?_, s1.drw.trans s2⟩
  have g3 : Sat w2 (tree U L :: tr h r t :: pt T [ptr r 0, int L.length] 154 :: F) := tree_mk h1 h2 h3 h4 rfl g2
  exact (tree_mk h1 h2 h3 h4 rfl (g3.re [2, 1, 0] (by decide))).sw
end Go.Cb
