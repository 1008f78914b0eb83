/-
  What a walk takes, in plain lists: the keys in a span, so many; the next key above a text.
-/
import Derived.Test.YtialecgadoepjaaWp
set_option linter.unusedVariables false
set_option linter.unusedSimpArgs false
namespace Go.Cb

theorem bl_next : ∀ (a b : List UInt8), Op.bytesLess a (b ++ [0]) = !Op.bytesLess b a
  | [], [] => rfl
  | x :: r, [] => by
    simp only [List.nil_append, Op.bytesLess]
    have h1 : ¬ x < 0 := by simp [UInt8.lt_iff_toNat_lt]
    cases r <;> simp [Op.bytesLess, h1]
  | [], y :: s => by simp [Op.bytesLess]
  | x :: r, y :: s => by
    have ih := bl_next r s
    simp only [List.cons_append, Op.bytesLess]
    rw [ih]
    rcases Nat.lt_trichotomy x.toNat y.toNat with h | h | h
    · have h1 : x < y := UInt8.lt_iff_toNat_lt.2 h
      have h2 : ¬ y < x := fun h' => by have := UInt8.lt_iff_toNat_lt.1 h'; omega
      have h3 : ¬ y = x := by rintro rfl; omega
      simp [h1, h2, h3]
    · have h3 : x = y := UInt8.toNat_inj.1 h
      subst h3
      have h1 : ¬ x < x := fun h' => by have := UInt8.lt_iff_toNat_lt.1 h'; omega
      simp [h1]
    · have h1 : y < x := UInt8.lt_iff_toNat_lt.2 h
      have h2 : ¬ x < y := fun h' => by have := UInt8.lt_iff_toNat_lt.1 h'; omega
      have h3 : ¬ x = y := by rintro rfl; omega
      simp [h1, h2, h3]

/-- in a span. -/
def inB (f t k : ByteArray) : Bool := !kl k f && (decide (t = ByteArray.empty) || kl k t)
def stopW (m : Int) (f t : ByteArray) (s : List Ent) (e : Ent) : Bool := decide (m ≤ (s.length : Int)) || !inB f t e.1

theorem feedW {m : Int} {f t : ByteArray} : ∀ (A s : List Ent), Srt A → (∀ e ∈ A, kl e.1 f = false) → (feed (stopW m f t) s A).1 = s ++ (A.filter fun e => inB f t e.1).take (m - s.length).toNat
  | [], s, _, _ => by simp [feed]
  | e :: r, s, hs, hf => by
    obtain ⟨h1, h2⟩ := srt_cons.1 hs
    have he := hf e (by simp)
    by_cases hm : m ≤ (s.length : Int)
    · have : (m - s.length).toNat = 0 := by omega
      rw [this]
      simp [feed, stopW, hm]
    · cases hi : inB f t e.1 with
      | true =>
        have ih := feedW (m := m) (f := f) (t := t) r (s ++ [e]) h2 (fun x hx => hf x (by simp [hx]))
        have hst : stopW m f t s e = false := by simp [stopW, hm, hi]
        simp only [feed, hst, cond_false]
        rw [ih]
        obtain ⟨n, hn⟩ : ∃ n, (m - s.length).toNat = n + 1 := ⟨(m - s.length).toNat - 1, by omega⟩
        have hn' : (m - (s ++ [e]).length).toNat = n := by simp; omega
        rw [hn, hn', List.filter_cons_of_pos (by simpa using hi), List.take_succ_cons]
        simp
      | false =>
        have hst : stopW m f t s e = true := by simp [stopW, hi]
        have hr : (e :: r).filter (fun e => inB f t e.1) = [] := by
          rw [List.filter_eq_nil_iff]
          have hb : decide (t = ByteArray.empty) = false ∧ kl e.1 t = false := by
            have := hi
            simp only [inB, he, Bool.not_false, Bool.true_and, Bool.or_eq_false_iff] at this
            exact this
          intro x hx
          rcases List.mem_cons.1 hx with rfl | hx
          · rw [hi]; simp
          · have hk : kl x.1 t = false := by
              cases hk : kl x.1 t with
              | false => rfl
              | true => rw [kl_tr (h1 x hx) hk] at hb; exact absurd hb.2 (by simp)
            simp [inB, hb.1, hk]
        rw [hr]
        simp [feed, hst]

theorem from_in {f t : ByteArray} (L : List Ent) : (fromL L f).filter (fun e => inB f t e.1) = L.filter fun e => inB f t e.1 := by
  unfold fromL
  rw [List.filter_filter]
  congr 1
  funext e
  cases h : kl e.1 f <;> simp [inB, h]
theorem from_srt {L : List Ent} {f : ByteArray} (h : Srt L) : Srt (fromL L f) := List.Pairwise.filter _ h
theorem from_ge {L : List Ent} {f : ByteArray} : ∀ e ∈ fromL L f, kl e.1 f = false := by
  intro e he
  have := (List.mem_filter.1 he).2
  simpa using this

/-- what a walk answers. -/
def walkL (L : List Ent) (f t : ByteArray) (m : Int) : List Ent := (L.filter fun e => inB f t e.1).take m.toNat
theorem feed_walk {m : Int} {f t : ByteArray} {L : List Ent} (h : Srt L) : (feed (stopW m f t) [] (fromL L f)).1 = walkL L f t m := by
  rw [feedW _ _ (from_srt h) from_ge, from_in]
  simp [walkL]
end Go.Cb
