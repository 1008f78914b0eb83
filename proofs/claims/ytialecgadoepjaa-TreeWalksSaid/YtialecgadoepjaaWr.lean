/-
  Spans and numbers that come in.
-/
import Derived.Test.YtialecgadoepjaaTp
set_option linter.unusedVariables false
set_option linter.unusedSimpArgs false
namespace Go.Cb
open Go.ChangeShapes Go.WideShapes
section
variable {H : Type} {enc : TypeId × Value → H} {W : World} {base : Nat} {spare : Nat → Bool} {held : Bool}

theorem c36 : Pg.cellsOf 36 = 2 := by kernel_rfl
set_option maxRecDepth 100000 in
theorem span_of {r : Reach} {b0 : Nat} {v : Value} {d : DataW H} {ps : List MemPlace} (hv : Value.okWide Pg W r b0 36 v) (h : DataW.Trod enc Pg W base spare held 36 v d ps) : ∃ f t : ByteArray, v = .agg #[.string f, .string t] := by
  obtain ⟨cs, rfl, hsz⟩ := okWide_struct Go.Proofs.Try.underlying36 hv
  obtain ⟨n, h⟩ := h
  obtain ⟨y0, y1, m, _, hl, g0, g1⟩ := trod_struct2 Go.Proofs.Try.underlying36 h
  have hcs : (Value.agg cs).cells.toList = cs.toList := rfl
  rw [hcs] at hl g0 g1
  rw [c36] at hl
  obtain ⟨l⟩ := cs
  match l, hl with
  | [v0, v1], _ =>
    simp [c9] at g0 g1
    obtain ⟨s, e0, _⟩ := DataW.trod_string Go.Proofs.Try.underlying9 g0
    obtain ⟨j, e1, _⟩ := DataW.trod_string Go.Proofs.Try.underlying9 g1
    simp at e0 e1
    subst e0 e1
    exact ⟨_, _, rfl⟩
set_option maxRecDepth 100000 in
theorem acts_of' {r : Reach} {b0 : Nat} {v : Value} {d : DataW H} {ps : List MemPlace} (hv : Value.okWide Pg W r b0 22 v) (h : DataW.Trod enc Pg W base spare held 22 v d ps) : ∃ acts, ActsF v acts W := by
  obtain ⟨a, len, cap, rfl⟩ := okWide_slice Go.Proofs.Try.underlying22 hv
  obtain ⟨n, h⟩ := h
  exact acts_of h
end
end Go.Cb
