/-
  What is handed on, entry by entry, until it is said so: in plain lists.
-/
import Derived.Test.YtialecgadoepjaaTs
set_option linter.unusedVariables false
set_option linter.unusedSimpArgs false
namespace Go.Cb
variable {w : World} {F : List HP} {Q : Value → World → Prop}

/-- entries are handed on until one is refused: those taken, and the one refused. -/
def feed (stop : List Ent → Ent → Bool) : List Ent → List Ent → List Ent × Option Ent
  | s, [] => (s, none)
  | s, e :: r => bif stop s e then (s, some e) else feed stop (s ++ [e]) r
theorem feed_none {stop : List Ent → Ent → Bool} : ∀ {A s B : List Ent}, (feed stop s A).2 = none → feed stop s (A ++ B) = feed stop (feed stop s A).1 B
  | [], s, B, _ => rfl
  | e :: r, s, B, h => by
    simp only [feed, List.cons_append] at h ⊢
    cases hs : stop s e with
    | true => rw [hs] at h; cases h
    | false => rw [hs] at h; exact feed_none (A := r) h
theorem feed_some {stop : List Ent → Ent → Bool} : ∀ {A s B : List Ent} {e : Ent}, (feed stop s A).2 = some e → feed stop s (A ++ B) = feed stop s A
  | [], s, B, _, h => by cases h
  | x :: r, s, B, e, h => by
    simp only [feed, List.cons_append] at h ⊢
    cases hs : stop s x with
    | true => rfl
    | false => rw [hs] at h; exact feed_some (A := r) h
theorem feed_end {stop : List Ent → Ent → Bool} : ∀ {A s : List Ent}, (feed stop s A).2 = none → (feed stop s A).1 = s ++ A
  | [], s, _ => by simp [feed]
  | e :: r, s, h => by
    simp only [feed] at h ⊢
    cases hs : stop s e with
    | true => rw [hs] at h; cases h
    | false =>
      rw [hs] at h
      have := feed_end (A := r) h
      simp only [cond_false]
      rw [this]; simp

/-- those from a key on. -/
def fromL (L : List Ent) (k : ByteArray) : List Ent := L.filter fun e => !kl e.1 k
theorem fromL_app (A B : List Ent) (k : ByteArray) : fromL (A ++ B) k = fromL A k ++ fromL B k := List.filter_append ..
theorem fromL_bel {A : List Ent} {k : ByteArray} (h : bel A k) : fromL A k = [] := List.filter_eq_nil_iff.2 fun e he => by rw [h e he]; simp
theorem fromL_id {A : List Ent} {k : ByteArray} (h : ∀ e ∈ A, kl e.1 k = false) : fromL A k = A := List.filter_eq_self.2 fun e he => by rw [h e he]; rfl

theorem fits_head {key : ByteArray} {l1 l2 : List Ent} {b : Bool} (hf : Fits key l1 l2 b) : ∀ e, l2.head? = some e → kl e.1 key = false := by
  rcases hf.2 with ⟨rfl, _⟩ | ⟨x, r, rfl, hx, _⟩
  · simp
  · intro e he; simp at he; subst he; exact hx

theorem head_from {key : ByteArray} {x : Ent} {r : List Ent} (hs : Srt (x :: r)) (hx : kl x.1 key = false) : ∀ e ∈ x :: r, kl e.1 key = false := by
  intro e he
  rcases List.mem_cons.1 he with rfl | he
  · exact hx
  · have h1 := (srt_cons.1 hs).1 e he
    cases hk : kl e.1 key with
    | false => rfl
    | true => rw [kl_tr h1 hk] at hx; cases hx

theorem rpart_from {key : ByteArray} {l2 : List Ent} {k2 : List (List Ent)} (hs : Srt (rpart l2 k2)) (hl : ∀ e, l2.head? = some e → kl e.1 key = false) : ∀ e ∈ rpart l2 k2, kl e.1 key = false := by
  match l2, k2 with
  | [], _ => simp [rpart]
  | x :: r, [] => simp [rpart]
  | x :: r, k :: ks =>
    rw [rpart_cons] at hs ⊢
    exact head_from hs (hl x rfl)

theorem from_il {key : ByteArray} {l1 l2 : List Ent} {b : Bool} {k1 k2 : List (List Ent)} {k : List Ent} (hf : Fits key l1 l2 b) (hk : k1.length = l1.length) (hs : Srt (il (l1 ++ l2) (k1 ++ k :: k2))) :
    fromL (il (l1 ++ l2) (k1 ++ k :: k2)) key = fromL k key ++ rpart l2 k2 := by
  rw [il_app l2 k k2 hk] at hs ⊢
  obtain ⟨h1, h2, _⟩ := srt_app.1 hs
  obtain ⟨h3, h4, _⟩ := srt_app.1 h1
  rw [fromL_app, fromL_app, fromL_bel (lpart_bel h3 hf.1), fromL_id (rpart_from h2 (fits_head hf))]
  rfl
end Go.Cb
