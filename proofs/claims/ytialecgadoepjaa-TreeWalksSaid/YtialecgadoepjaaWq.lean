/-
  Walks piece by piece, in plain lists.
-/
import Derived.Test.YtialecgadoepjaaPl
set_option linter.unusedVariables false
set_option linter.unusedSimpArgs false
namespace Go.Cb

def filB (L : List Ent) (f t : ByteArray) : List Ent := L.filter fun e => inB f t e.1
theorem walk_fil (L : List Ent) (f t : ByteArray) (m : Int) : walkL L f t m = (filB L f t).take m.toNat := rfl
theorem fil_srt {L : List Ent} (h : Srt L) (f t : ByteArray) : Srt (filB L f t) := List.Pairwise.filter _ h

/-- behind an entry of the span. -/
theorem fil_next {L A B : List Ent} {e : Ent} {f t : ByteArray} (hs : Srt L) (hW : filB L f t = A ++ e :: B) : filB L (e.1 ++ zB) t = B := by
  have he : e ∈ filB L f t := by rw [hW]; simp
  have hin := (List.mem_filter.1 he).2
  have hef : kl e.1 f = false := by
    cases h : kl e.1 f with
    | false => rfl
    | true => simp [inB, h] at hin
  have h1 : filB L (e.1 ++ zB) t = (filB L f t).filter fun x => kl e.1 x.1 := by
    unfold filB
    rw [List.filter_filter]
    congr 1
    funext x
    unfold inB
    rw [kl_next, Bool.not_not]
    cases hx : kl e.1 x.1 with
    | false => simp
    | true =>
      have : kl x.1 f = false := by
        cases h : kl x.1 f with
        | false => rfl
        | true => rw [kl_tr hx h] at hef; cases hef
      simp [this]
  have hsW := fil_srt hs f t
  rw [hW] at hsW
  obtain ⟨b1, b2⟩ := srt_mid hsW
  rw [h1, hW, List.filter_append]
  have : A.filter (fun x => kl e.1 x.1) = [] := List.filter_eq_nil_iff.2 fun x hx => by rw [kl_asym (b1 x hx)]; simp
  rw [this, List.nil_append, List.filter_cons_of_neg (by rw [kl_irr]; simp)]
  exact List.filter_eq_self.2 fun x hx => b2 x hx

/-- a span that ends where it begins is empty. -/
theorem fil_over {L : List Ent} {f t : ByteArray} (h1 : t ≠ noB) (h2 : kl f t = false) : filB L f t = [] := by
  refine List.filter_eq_nil_iff.2 fun x hx hin => ?_
  have ht : decide (t = ByteArray.empty) = false := decide_eq_false h1
  simp only [inB, ht, Bool.false_or, Bool.and_eq_true, Bool.not_eq_true'] at hin
  obtain ⟨a, b⟩ := hin
  by_cases hfx : f = x.1
  · rw [hfx, b] at h2; cases h2
  · cases hk : kl f x.1 with
    | true => rw [kl_tr hk b] at h2; cases h2
    | false => exact hfx (kl_tot hk a)

/-- the next of the span is the next of all. -/
theorem aft_next {L A B : List Ent} {x y : Ent} {f t : ByteArray} (hs : Srt L) (hW : filB L f t = A ++ x :: y :: B) : aftV L x.1 = .tuple #[.string y.1, .bool true] := by
  have hN := fil_next hs hW
  have hy : y ∈ upps L x.1 := by
    rw [← from_next]
    have : y ∈ filB L (x.1 ++ zB) t := by rw [hN]; simp
    obtain ⟨h1, h2⟩ := List.mem_filter.1 this
    refine List.mem_filter.2 ⟨h1, ?_⟩
    have h2 : inB (x.1 ++ zB) t y.1 = true := h2
    unfold inB at h2
    exact (Bool.and_eq_true _ _ ▸ h2).1
  have hsU : Srt (upps L x.1) := List.Pairwise.filter _ hs
  unfold aftV
  match hU : upps L x.1, hy, hsU with
  | z :: U, hy, hsU =>
    have hzy : z = y := by
      rcases List.mem_cons.1 hy with h | h
      · exact h.symm
      · exfalso
        have hlt := (srt_cons.1 hsU).1 y h
        have hyin := (List.mem_filter.1 (show y ∈ filB L f t by rw [hW]; simp)).2
        have hz : z ∈ upps L x.1 := by rw [hU]; simp
        have hzB : z ∈ filB L (x.1 ++ zB) t := by
          refine List.mem_filter.2 ⟨(List.mem_filter.1 hz).1, ?_⟩
          have h1 : kl x.1 z.1 = true := (List.mem_filter.1 hz).2
          have h3 : inB f t y.1 = true := hyin
          unfold inB at h3
          have h4 := (Bool.and_eq_true _ _ ▸ h3 : _ ∧ _).2
          show inB (x.1 ++ zB) t z.1 = true
          unfold inB
          rw [kl_next, h1]
          rcases Bool.or_eq_true _ _ ▸ h4 with h5 | h5
          · simp only [h5]; rfl
          · simp only [kl_tr hlt h5, Bool.or_true]; rfl
        rw [hN] at hzB
        have hsB : Srt (y :: B) := by rw [← hN]; exact fil_srt hs _ _
        rcases List.mem_cons.1 hzB with h6 | h6
        · rw [h6, kl_irr] at hlt; cases hlt
        · have := (srt_cons.1 hsB).1 z h6
          rw [kl_asym this] at hlt; cases hlt
    rw [hzy]; rfl

/-- what stands after some pieces. -/
structure Pcs (L W : List Ent) (t f' : ByteArray) (n : Nat) : Prop where
  le : n ≤ W.length
  rest : filB L f' t = W.drop n

theorem pcs_step {L W : List Ent} {f t f' : ByteArray} {n : Nat} {m : Int} (hs : Srt L) (hW : W = filB L f t) (hp : Pcs L W t f' n) (hm : 1 ≤ m) :
    (walkL L f' t m).length ≤ m.toNat ∧ n + (walkL L f' t m).length ≤ W.length ∧ W.take n ++ walkL L f' t m = W.take (n + (walkL L f' t m).length) ∧
    ((walkL L f' t m = [] ∧ n = W.length) ∨ ∃ p0 e, walkL L f' t m = p0 ++ [e] ∧ Pcs L W t (e.1 ++ zB) (n + (walkL L f' t m).length)) ∧
    ((walkL L f' t m).length < m.toNat → n + (walkL L f' t m).length = W.length) := by
  have h0 : walkL L f' t m = (W.drop n).take m.toNat := by rw [walk_fil, hp.rest]
  have hl : (walkL L f' t m).length = min m.toNat (W.length - n) := by rw [h0, List.length_take, List.length_drop]
  have hle := hp.le
  have ht : walkL L f' t m = (W.drop n).take (walkL L f' t m).length := by
    rw [hl, h0]
    rcases Nat.le_total m.toNat (W.length - n) with h | h
    · rw [Nat.min_eq_left h]
    · rw [Nat.min_eq_right h, List.take_of_length_le (by rw [List.length_drop]; exact h), List.take_of_length_le (by rw [List.length_drop]; omega)]
  have htake : W.take n ++ walkL L f' t m = W.take (n + (walkL L f' t m).length) := by
    rw [List.take_add, ← ht]
  refine ⟨by omega, by omega, htake, ?_, by omega⟩
  rcases List.eq_nil_or_concat (walkL L f' t m) with h | ⟨p0, e, h⟩
  · left
    refine ⟨h, ?_⟩
    rw [h] at hl
    simp at hl; omega
  · right
    rw [List.concat_eq_append] at h
    refine ⟨p0, e, h, by omega, ?_⟩
    have hWe : filB L f t = (W.take n ++ p0) ++ e :: W.drop (n + (walkL L f' t m).length) := by
      rw [← hW]
      have h9 := List.take_append_drop (n + (walkL L f' t m).length) W
      rw [← htake] at h9
      conv => lhs; rw [← h9]
      rw [h]; simp
    rw [fil_next hs hWe]
end Go.Cb
