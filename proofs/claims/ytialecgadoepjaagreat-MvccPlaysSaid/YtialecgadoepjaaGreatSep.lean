/-
  Parts of the heap, apart from one another: a list of predicates, each on its own blocks.
-/
import Derived.Test.YtialecgadoepjaaGreatSl
set_option linter.unusedVariables false
set_option linter.unusedSimpArgs false
namespace Go.Cb
variable {P : Program}

theorem Ok.ct {a b : Unit → R} {x : Bool} {Q : Value → World → Prop} (h : x = true) (hk : Ok (a ()) Q) : Ok (cnd (.bool x) a b) Q := by subst h; exact hk
theorem Ok.cf {a b : Unit → R} {x : Bool} {Q : Value → World → Prop} (h : x = false) (hk : Ok (b ()) Q) : Ok (cnd (.bool x) a b) Q := by subst h; exact hk
theorem Ok.ci {a b : Unit → R} {x : Bool} {Q : Value → World → Prop} (ht : x = true → Ok (a ()) Q) (hf : x = false → Ok (b ()) Q) : Ok (cnd (.bool x) a b) Q := by
  cases x with
  | true => exact ht rfl
  | false => exact hf rfl

abbrev Hl := Nat → Option Obj
abbrev HP := Hl → Prop

def Hl.on (h : Hl) (w : World) : Prop := ∀ b o, h b = some o → w.heap[b]? = some o
def dj (h1 h2 : Hl) : Prop := ∀ b, h1 b = none ∨ h2 b = none
def un (h1 h2 : Hl) : Hl := fun b => (h1 b).or (h2 b)
def emp : HP := fun h => ∀ b, h b = none

def stars : List HP → HP
  | [], h => emp h
  | P :: l, h => ∃ h1 h2, dj h1 h2 ∧ h = un h1 h2 ∧ P h1 ∧ stars l h2

def Sat (w : World) (l : List HP) : Prop := ∃ h : Hl, h.on w ∧ stars l h

theorem un_comm {h1 h2 : Hl} (hd : dj h1 h2) : un h1 h2 = un h2 h1 := by
  funext b
  unfold un
  rcases hd b with h | h <;> rw [h] <;> simp

theorem un_assoc (h1 h2 h3 : Hl) : un (un h1 h2) h3 = un h1 (un h2 h3) := by
  funext b; unfold un; cases h1 b <;> simp

theorem dj.symm {h1 h2 : Hl} (hd : dj h1 h2) : dj h2 h1 := fun b => (hd b).symm

theorem dj_un {h1 h2 h3 : Hl} : dj h1 (un h2 h3) ↔ dj h1 h2 ∧ dj h1 h3 := by
  unfold dj un
  constructor
  · intro h
    refine ⟨fun b => ?_, fun b => ?_⟩ <;> rcases h b with h | h
    · exact .inl h
    · right; cases hb : h2 b with | none => rfl | some x => rw [hb] at h; simp at h
    · exact .inl h
    · right; cases hb : h2 b with | none => rw [hb] at h; simpa using h | some x => rw [hb] at h; simp at h
  · rintro ⟨ha, hb⟩ b
    rcases ha b with h | h
    · exact .inl h
    · rcases hb b with h' | h'
      · exact .inl h'
      · right; rw [h, h']; rfl

theorem stars_swap {A B : HP} {l : List HP} {h : Hl} (hs : stars (A :: B :: l) h) : stars (B :: A :: l) h := by
  obtain ⟨h1, hr, hd, rfl, hA, h2, h3, hd2, rfl, hB, hl⟩ := hs
  rw [dj_un] at hd
  refine ⟨h2, un h1 h3, dj_un.2 ⟨hd.1.symm, hd2⟩, ?_, hB, h1, h3, hd.2, rfl, hA, hl⟩
  rw [← un_assoc, un_comm hd.1, un_assoc]

theorem stars_perm {l m : List HP} (hp : l.Perm m) : ∀ {h : Hl}, stars l h → stars m h := by
  induction hp with
  | nil => intro h hs; exact hs
  | cons A _ ih =>
    rintro h ⟨h1, h2, hd, rfl, hA, hl⟩
    exact ⟨h1, h2, hd, rfl, hA, ih hl⟩
  | swap A B l => intro h hs; exact stars_swap hs
  | trans _ _ ih1 ih2 => intro h hs; exact ih2 (ih1 hs)

theorem un_emp_l {h1 h2 : Hl} (h : emp h1) : un h1 h2 = h2 := by funext b; unfold un; rw [h b]; rfl

theorem stars_append {l m : List HP} : ∀ {h : Hl}, stars (l ++ m) h ↔ ∃ h1 h2, dj h1 h2 ∧ h = un h1 h2 ∧ stars l h1 ∧ stars m h2 := by
  induction l with
  | nil =>
    intro h
    constructor
    · intro hs; exact ⟨fun _ => none, h, fun b => .inl rfl, (un_emp_l fun _ => rfl).symm, fun _ => rfl, hs⟩
    · rintro ⟨h1, h2, hd, rfl, he, hm⟩
      rw [un_emp_l he]; exact hm
  | cons A l ih =>
    intro h
    constructor
    · rintro ⟨h1, h2, hd, rfl, hA, hl⟩
      obtain ⟨h3, h4, hd2, rfl, hl, hm⟩ := ih.1 hl
      rw [dj_un] at hd
      exact ⟨un h1 h3, h4, (dj_un.2 ⟨hd.2.symm, hd2.symm⟩).symm, (un_assoc _ _ _).symm, ⟨h1, h3, hd.1, rfl, hA, hl⟩, hm⟩
    · rintro ⟨h1, h2, hd, rfl, ⟨h3, h4, hd2, rfl, hA, hl⟩, hm⟩
      have hd' := dj_un.1 hd.symm
      exact ⟨h3, un h4 h2, dj_un.2 ⟨hd2, hd'.1.symm⟩, un_assoc _ _ _, hA, ih.2 ⟨h4, h2, hd'.2.symm, rfl, hl, hm⟩⟩

variable {w w' : World} {A B : HP} {F G : List HP}

theorem Sat.perm (h : Sat w F) (hp : F.Perm G) : Sat w G := let ⟨x, hx, hs⟩ := h; ⟨x, hx, stars_perm hp hs⟩
theorem Sat.mono (h : Sat w (A :: F)) (hAB : ∀ x, A x → B x) : Sat w (B :: F) := by
  obtain ⟨x, hx, h1, h2, hd, rfl, hA, hF⟩ := h
  exact ⟨_, hx, h1, h2, hd, rfl, hAB _ hA, hF⟩
theorem un_r {h1 h2 : Hl} (hd : dj h1 h2) {b : Nat} {o : Obj} (h : h2 b = some o) : un h1 h2 b = some o := by
  unfold un; rcases hd b with h' | h'
  · rw [h', h]; rfl
  · rw [h'] at h; cases h
theorem un_l {h1 h2 : Hl} {b : Nat} {o : Obj} (h : h1 b = some o) : un h1 h2 b = some o := by unfold un; rw [h]; rfl
theorem Sat.drop (h : Sat w (A :: F)) : Sat w F := by
  obtain ⟨x, hx, h1, h2, hd, rfl, hA, hF⟩ := h
  exact ⟨h2, fun b o hb => hx b o (un_r hd hb), hF⟩
theorem Sat.dropL (h : Sat w (G ++ F)) : Sat w F := by
  induction G with
  | nil => exact h
  | cons A G ih => exact ih h.drop
theorem Sat.ex {α : Sort _} {A : α → HP} : Sat w ((fun h => ∃ x, A x h) :: F) ↔ ∃ x, Sat w (A x :: F) := by
  constructor
  · rintro ⟨x, hx, h1, h2, hd, rfl, ⟨y, hA⟩, hF⟩
    exact ⟨y, _, hx, h1, h2, hd, rfl, hA, hF⟩
  · rintro ⟨y, x, hx, h1, h2, hd, rfl, hA, hF⟩
    exact ⟨_, hx, h1, h2, hd, rfl, ⟨y, hA⟩, hF⟩
theorem Sat.and {φ : Prop} : Sat w ((fun h => φ ∧ A h) :: F) ↔ φ ∧ Sat w (A :: F) := by
  constructor
  · rintro ⟨x, hx, h1, h2, hd, rfl, ⟨y, hA⟩, hF⟩
    exact ⟨y, _, hx, h1, h2, hd, rfl, hA, hF⟩
  · rintro ⟨y, x, hx, h1, h2, hd, rfl, hA, hF⟩
    exact ⟨_, hx, h1, h2, hd, rfl, ⟨y, hA⟩, hF⟩
theorem Sat.or : Sat w ((fun h => A h ∨ B h) :: F) ↔ Sat w (A :: F) ∨ Sat w (B :: F) := by
  constructor
  · rintro ⟨x, hx, h1, h2, hd, rfl, hA | hA, hF⟩
    · exact .inl ⟨_, hx, h1, h2, hd, rfl, hA, hF⟩
    · exact .inr ⟨_, hx, h1, h2, hd, rfl, hA, hF⟩
  · rintro (⟨x, hx, h1, h2, hd, rfl, hA, hF⟩ | ⟨x, hx, h1, h2, hd, rfl, hA, hF⟩)
    · exact ⟨_, hx, h1, h2, hd, rfl, .inl hA, hF⟩
    · exact ⟨_, hx, h1, h2, hd, rfl, .inr hA, hF⟩
theorem Sat.emp : Sat w (Cb.emp :: F) ↔ Sat w F := by
  constructor
  · exact Sat.drop
  · rintro ⟨x, hx, hF⟩
    exact ⟨x, hx, fun _ => none, x, fun _ => .inl rfl, (un_emp_l fun _ => rfl).symm, fun _ => rfl, hF⟩
theorem Sat.flat : Sat w (stars G :: F) ↔ Sat w (G ++ F) := by
  constructor
  · rintro ⟨x, hx, h1, h2, hd, rfl, hA, hF⟩
    exact ⟨_, hx, stars_append.2 ⟨h1, h2, hd, rfl, hA, hF⟩⟩
  · rintro ⟨x, hx, hs⟩
    obtain ⟨h1, h2, hd, rfl, hA, hF⟩ := stars_append.1 hs
    exact ⟨_, hx, h1, h2, hd, rfl, hA, hF⟩

theorem re_eq : ∀ (k : Nat) (l : List HP), ∃ z : List HP, (∀ x ∈ z, x = Cb.emp) ∧ (List.range k).map (fun i => l.getD i Cb.emp) ++ l.drop k = l ++ z
  | 0, l => ⟨[], by simp, by simp⟩
  | k + 1, [] => by
    obtain ⟨z, hz, he⟩ := re_eq k []
    refine ⟨Cb.emp :: z, by simpa using hz, ?_⟩
    rw [List.range_succ_eq_map]
    simp only [List.map_cons, List.map_map, List.getD_nil, List.drop_nil, List.append_nil, List.nil_append] at he ⊢
    rw [← he]; rfl
  | k + 1, a :: l => by
    obtain ⟨z, hz, he⟩ := re_eq k l
    refine ⟨z, hz, ?_⟩
    rw [List.range_succ_eq_map, List.map_cons, List.map_map, List.drop_succ_cons, List.cons_append, List.cons_append, ← he]
    rfl

/-- the parts set in another order. -/
theorem Sat.re (h : Sat w F) (ix : List Nat) (hp : ix.Perm (List.range ix.length)) : Sat w (ix.map (fun i => F.getD i Cb.emp) ++ F.drop ix.length) := by
  obtain ⟨z, hz, he⟩ := re_eq ix.length F
  have h1 : Sat w (F ++ z) := by
    refine Sat.perm (F := z ++ F) ?_ List.perm_append_comm
    clear he
    induction z with
    | nil => exact h
    | cons a z ih =>
      have := hz a (by simp)
      subst this
      exact Sat.emp.2 (ih fun x hx => hz x (by simp [hx]))
  rw [← he] at h1
  exact h1.perm (List.Perm.append_right _ (hp.symm.map _))

/-! ### A block -/

/-- block b, with these cells. -/
def pt (b : Nat) (l : List Value) (T : TypeId) : HP := fun h => h = fun c => if c = b then some (.cells l.toArray T (0, 0)) else none

theorem Sat.at {b : Nat} {l : List Value} {T : TypeId} (h : Sat w (pt b l T :: F)) : At w b l T := by
  obtain ⟨x, hx, h1, h2, hd, rfl, hA, hF⟩ := h
  exact hx b _ (un_l (by rw [hA]; simp))

theorem Sat.hp {b : Nat} {l : List Value} {T : TypeId} (h : Sat w (pt b l T :: F)) : Hp w [(b, l, T)] :=
  ⟨fun x hx => by simp at hx; subst hx; exact h.at, by simp⟩

theorem Sat.ne {b b' : Nat} {l l' : List Value} {T T' : TypeId} (h : Sat w (pt b l T :: pt b' l' T' :: F)) : b ≠ b' := by
  rintro rfl
  obtain ⟨x, hx, h1, h2, hd, rfl, hA, h3, h4, hd2, rfl, hB, hF⟩ := h
  rw [dj_un] at hd
  rcases hd.1 b with h | h
  · rw [hA] at h; simp at h
  · rw [hB] at h; simp at h

theorem Hl.on.lt {h : Hl} (hx : h.on w) {b : Nat} (hb : h b ≠ none) : b < w.heap.size := by
  cases hh : h b with
  | none => exact absurd hh hb
  | some o => exact (Array.getElem?_eq_some_iff.1 (hx b o hh)).1

/-- a block is turned, the other parts stay. -/
theorem Sat.put {S : Nat → Prop} {b : Nat} {l l' : List Value} {T T' : TypeId} (h : Sat w (pt b l T :: F)) (hE : Ext S w w') (hS : ∀ c, c < w.heap.size → S c → c = b) {b' : Nat} (ha : At w' b' l' T') (hb : b' = b ∨ w.heap.size ≤ b') : Sat w' (pt b' l' T' :: F) := by
  obtain ⟨x, hx, h1, h2, hd, rfl, hA, hF⟩ := h
  have hx2 : h2.on w := fun c o hc => hx c o (un_r hd hc)
  have h1b : h1 b ≠ none := by rw [hA]; simp
  have hne : ∀ c, h2 c ≠ none → c ≠ b ∧ c ≠ b' := by
    intro c hc
    have hcb : c ≠ b := by
      rintro rfl
      rcases hd c with h | h
      · exact h1b h
      · exact hc h
    refine ⟨hcb, ?_⟩
    rcases hb with rfl | hb
    · exact hcb
    · have := hx2.lt hc; omega
  refine ⟨un (fun c => if c = b' then some (.cells l'.toArray T' (0, 0)) else none) h2, ?_, _, h2, ?_, rfl, rfl, hF⟩
  · intro c o hc
    unfold un at hc
    by_cases hcb : c = b'
    · subst hcb
      simp at hc
      rw [← hc]; exact ha
    · simp only [if_neg hcb, Option.none_or] at hc
      have hn := hne c (by rw [hc]; simp)
      rw [hE.old c (hx2.lt (by rw [hc]; simp)) (fun hs => hn.1 (hS c (hx2.lt (by rw [hc]; simp)) hs))]
      exact hx2 c o hc
  · intro c
    by_cases hcb : h2 c = none
    · exact .inr hcb
    · left; simp only [if_neg (hne c hcb).2]

/-- a new block. -/
theorem Sat.new {S : Nat → Prop} {l' : List Value} {T' : TypeId} (h : Sat w F) (hE : Ext S w w') (hS : ∀ c, c < w.heap.size → ¬ S c) {b' : Nat} (ha : At w' b' l' T') (hb : w.heap.size ≤ b') : Sat w' (pt b' l' T' :: F) := by
  obtain ⟨h2, hx2, hF⟩ := h
  have hne : ∀ c, h2 c ≠ none → c ≠ b' := by
    intro c hc
    have := hx2.lt hc; omega
  refine ⟨un (fun c => if c = b' then some (.cells l'.toArray T' (0, 0)) else none) h2, ?_, _, h2, ?_, rfl, rfl, hF⟩
  · intro c o hc
    unfold un at hc
    by_cases hcb : c = b'
    · subst hcb
      simp at hc
      rw [← hc]; exact ha
    · simp only [if_neg hcb, Option.none_or] at hc
      have hlt := hx2.lt (b := c) (by rw [hc]; simp)
      rw [hE.old c hlt (hS c hlt)]
      exact hx2 c o hc
  · intro c
    by_cases hcb : h2 c = none
    · exact .inr hcb
    · left; simp only [if_neg (hne c hcb)]

theorem Sat.ext {S : Nat → Prop} (h : Sat w F) (hE : Ext S w w') (hS : ∀ c, c < w.heap.size → ¬ S c) : Sat w' F := by
  obtain ⟨h2, hx2, hF⟩ := h
  exact ⟨h2, fun c o hc => by
    have hlt := hx2.lt (b := c) (by rw [hc]; simp)
    rw [hE.old c hlt (hS c hlt)]; exact hx2 c o hc, hF⟩

/-- the whole of a heap's old blocks, as a part. -/
def all (w0 : World) : HP := fun h => ∀ b, b < w0.heap.size → h b = w0.heap[b]?
theorem Sat.all (w : World) : Sat w [Cb.all w] := by
  refine ⟨fun b => w.heap[b]?, fun b o h => h, fun b => w.heap[b]?, fun _ => none, fun _ => .inr rfl, ?_, fun b _ => rfl, fun _ => rfl⟩
  funext b; simp [un]
theorem Sat.all_old {w0 : World} (h : Sat w (Cb.all w0 :: F)) : ∀ b, b < w0.heap.size → w.heap[b]? = w0.heap[b]? := by
  obtain ⟨x, hx, h1, h2, hd, rfl, hA, hF⟩ := h
  intro b hb
  have := hA b hb
  rw [Array.getElem?_eq_getElem hb] at this ⊢
  exact hx b _ (un_l this)

/-! ### What else a run leaves -/

structure Sm (w w' : World) : Prop where
  os : w'.os = w.os
  out : w'.output = w.output
  tape : w'.tape = w.tape
  fz : ∀ a, w'.frozen? a = w.frozen? a
theorem Sm.refl (w : World) : Sm w w := ⟨rfl, rfl, rfl, fun _ => rfl⟩
theorem Sm.trans {w w1 w2 : World} (h : Sm w w1) (h' : Sm w1 w2) : Sm w w2 := ⟨h'.os.trans h.os, h'.out.trans h.out, h'.tape.trans h.tape, fun a => (h'.fz a).trans (h.fz a)⟩
theorem Ext.sm {S : Nat → Prop} (h : Ext S w w') : Sm w w' := ⟨h.os, h.out, h.tape, h.fz⟩

theorem Sm.drw (h : Sm (Cb.drw w) w') : Sm w w' := ⟨h.os, h.out, h.tape, h.fz⟩
theorem Ext.drwL {S : Nat → Prop} (h : Ext S (Cb.drw w) w') : Ext S w w' := ⟨h.size, h.old, h.os, h.out, h.tape, h.fz⟩
theorem Sat.drw (h : Sat w F) : Sat (Cb.drw w) F := h

/-! ### A part of the list taken ahead, and put back -/

theorem perm_foc {β : Type} : ∀ {k : Nat} {l : List β} {a : β}, l[k]? = some a → l.Perm (a :: l.eraseIdx k)
  | 0, x :: r, a, h => by simp at h; subst h; exact List.Perm.refl _
  | k + 1, x :: r, a, h => by
    have := perm_foc (k := k) (l := r) (by simpa using h)
    exact (this.cons x).trans (List.Perm.swap _ _ _)
theorem perm_set {β : Type} : ∀ {k : Nat} {l : List β} {a b : β}, l[k]? = some a → (b :: l.eraseIdx k).Perm (l.set k b)
  | 0, x :: r, a, b, h => List.Perm.refl _
  | k + 1, x :: r, a, b, h => by
    have := perm_set (k := k) (l := r) (b := b) (by simpa using h)
    exact (List.Perm.swap _ _ _).trans (this.cons x)
theorem Sat.foc {w : World} {F : List HP} {k : Nat} {A : HP} (h : Sat w F) (hk : F[k]? = some A) : Sat w (A :: F.eraseIdx k) := h.perm (perm_foc hk)
theorem Sat.unf {k : Nat} {A B : HP} (hk : F[k]? = some A) (h : Sat w (B :: F.eraseIdx k)) : Sat w (F.set k B) := h.perm (perm_set hk)
theorem Sat.del {k : Nat} {A : HP} (h : Sat w F) (hk : F[k]? = some A) : Sat w (F.eraseIdx k) := (h.foc hk).drop

/-! ### A slice of rows -/

def slH (T k : Nat) {α : Type} (enc : α → List Value) (v : Value) (xs : List α) : HP := fun h =>
  (∃ a, (v = .slice a 0 0 ∧ xs = []) ∧ Cb.emp h) ∨
  ∃ b c l, (v = sl b 0 xs.length c ∧ l.length = c * k ∧ xs.length ≤ c ∧ l.take (xs.length * k) = xs.flatMap enc) ∧ pt b l T h

theorem slH_cases {T k : Nat} {α : Type} {enc : α → List Value} {v : Value} {xs : List α} (h : Sat w (slH T k enc v xs :: F)) :
    (∃ a, v = .slice a 0 0 ∧ xs = [] ∧ Sat w F) ∨ ∃ b c l, v = sl b 0 xs.length c ∧ l.length = c * k ∧ xs.length ≤ c ∧ l.take (xs.length * k) = xs.flatMap enc ∧ Sat w (pt b l T :: F) := by
  rcases Sat.or.1 h with h | h
  · obtain ⟨a, h⟩ := Sat.ex.1 h
    obtain ⟨⟨h1, h2⟩, h⟩ := Sat.and.1 h
    exact .inl ⟨a, h1, h2, Sat.emp.1 h⟩
  · obtain ⟨b, h⟩ := Sat.ex.1 h
    obtain ⟨c, h⟩ := Sat.ex.1 h
    obtain ⟨l, h⟩ := Sat.ex.1 h
    obtain ⟨⟨h1, h2, h3, h4⟩, h⟩ := Sat.and.1 h
    exact .inr ⟨b, c, l, h1, h2, h3, h4, h⟩

theorem slH_nil {T k : Nat} {α : Type} {enc : α → List Value} (a : Option Addr) (h : Sat w F) : Sat w (slH T k enc (.slice a 0 0) ([] : List α) :: F) :=
  Sat.or.2 (.inl (Sat.ex.2 ⟨a, Sat.and.2 ⟨⟨rfl, rfl⟩, Sat.emp.2 h⟩⟩))

theorem slH_mk {T k : Nat} {α : Type} {enc : α → List Value} {xs : List α} {n b c : Nat} {l : List Value} (hn : n = xs.length) (h1 : l.length = c * k) (h2 : xs.length ≤ c) (h3 : l.take (xs.length * k) = xs.flatMap enc) (h : Sat w (pt b l T :: F)) : Sat w (slH T k enc (sl b 0 n c) xs :: F) := by
  subst hn
  exact Sat.or.2 (.inr (Sat.ex.2 ⟨b, Sat.ex.2 ⟨c, Sat.ex.2 ⟨l, Sat.and.2 ⟨⟨rfl, h1, h2, h3⟩, h⟩⟩⟩⟩))

theorem slH_len {T k : Nat} {α : Type} {enc : α → List Value} {v : Value} {xs : List α} (h : Sat w (slH T k enc v xs :: F)) : ∃ a c, v = .slice a xs.length c ∧ xs.length ≤ c := by
  rcases slH_cases h with ⟨a, rfl, rfl, _⟩ | ⟨b, c, l, rfl, h1, h2, h3, _⟩
  · exact ⟨a, 0, rfl, Nat.le_refl _⟩
  · exact ⟨_, c, rfl, h2⟩

theorem slH_src {T k : Nat} {α : Type} {enc : α → List Value} {v : Value} {xs : List α} (h : Sat w (slH T k enc v xs :: F)) : Src w v xs.length k (xs.flatMap enc) := by
  rcases slH_cases h with ⟨a, rfl, rfl, _⟩ | ⟨b, c, l, rfl, h1, h2, h3, h⟩
  · cases a with
    | none => exact .inl ⟨0, rfl, rfl, rfl⟩
    | some a => exact .inr ⟨a, 0, rfl, by simp [cellsAt]⟩
  · have hmul : xs.length * k ≤ c * k := Nat.mul_le_mul_right k h2
    have := src_at (w := w) (c := c) h.at (show 0 + xs.length * k ≤ l.length by omega)
    rw [List.drop_zero, h3] at this
    exact this

/-- an element's cell. -/
theorem slH_cell {T k : Nat} {α : Type} {enc : α → List Value} (hk : ∀ x, (enc x).length = k) {v : Value} {xs : List α} (h : Sat w (slH T k enc v xs :: F)) {i : Nat} (hi : i < xs.length) :
    ∃ b c l, v = sl b 0 xs.length c ∧ At w b l T ∧ xs.length * k ≤ l.length ∧ (l.drop (i * k)).take k = enc xs[i] := by
  rcases slH_cases h with ⟨a, rfl, rfl, _⟩ | ⟨b, c, l, rfl, h1, h2, h3, h⟩
  · simp at hi
  · have hmul : xs.length * k ≤ c * k := Nat.mul_le_mul_right k h2
    refine ⟨b, c, l, rfl, h.at, by omega, ?_⟩
    have h4 : i * k + k ≤ xs.length * k := by rw [← Nat.succ_mul]; exact Nat.mul_le_mul_right k hi
    have h5 : (l.drop (i * k)).take k = ((l.take (xs.length * k)).drop (i * k)).take k := by
      rw [List.drop_take, List.take_take, Nat.min_eq_left (by omega)]
    rw [h5, h3, flat_drop hk, List.drop_eq_getElem_cons hi, List.flatMap_cons, ← hk xs[i], List.take_left]

end Go.Cb
