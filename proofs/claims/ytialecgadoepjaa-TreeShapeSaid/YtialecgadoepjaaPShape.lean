/-
  TreeShape is true at every input, and leaves the input as it was. No condition.
-/
import Derived.Test.YtialecgadoepjaaTp
set_option linter.unusedVariables false
set_option linter.unusedSimpArgs false
namespace Go.Proofs.Ytialecgadoepjaa
open Go.ChangeShapes Go.WideShapes Go.ChangeAt Go.RowKit

theorem Try.own : ownKnob Try.prog.godebug = none := by kernel_rfl
theorem Try.laidOut : laidOutB Try.prog = true := by kernel_rfl

set_option maxRecDepth 100000 in
theorem treeShape_lifted (os : Os) (started : os.Started) (H : Type) (enc : TypeId × Value → H) :
    ReturnsInHanded {} Try.checked os 3 .any (Rows.treeShapeSpec.pre6 enc Try.prog Try.f3 Rows.treeShapeRow.domain false) (Rows.treeShapeSpec.post enc Try.prog Try.f3 false true false false) := by
  refine returnsInHanded_of_change (C := Try.checked) Try.own started (by kernel_rfl) Try.func3
    (ChangeSpec.witness6 (enc := enc) (C := Try.checked) false ⟨#[], #[.slice none 0 0], []⟩ 8 (by kernel_rfl) (by kernel_rfl) (by kernel_rfl) (by kernel_rfl)) ?_
  intro W base args ds gs before hval0 hW hcnd _
  have hval : ∀ (j : Nat) t v, Try.f3.params[j]? = some t → args[j]? = some v → Value.okWide Try.prog W .any base t v := hval0
  have hW' := hW
  obtain ⟨p, q, hA0, hV, rfl, hfz, hnd⟩ := hW
  have hA : DataW.TrodAll enc Try.prog W 0 (fun _ => true) true Try.f3.params.toList args.toList ds p := hA0
  rw [Try.params3] at hA hval
  obtain ⟨v0, vs, d0, ds', p0, p1, e0, e1, e2, h0, h1⟩ := trodAll_cons hA
  obtain ⟨rfl, rfl, rfl⟩ := trodAll_nil h1
  obtain ⟨rfl, rfl⟩ := trodVars_none hV
  have hargs : args = #[v0] := Array.toList_inj.1 e0
  subst hargs e1 e2
  obtain ⟨a, len, cap, rfl⟩ := okWide_slice Try.underlying22 (hval 0 22 v0 rfl rfl)
  obtain ⟨fuel, hf⟩ := h0
  obtain ⟨acts, hacts⟩ := Go.Cb.acts_of hf
  clear hA0 hval0
  obtain ⟨x, W', hrun, rfl, hs, hm⟩ := Go.Cb.shape_ok (X := Go.Cb.all W) (F := []) (fun k => Go.Cb.acts_all hacts k) (Go.Cb.Sat.all W)
  refine (Go.Cb.Fn_calls (by kernel_rfl) hrun).mono fun e W'' ⟨he, hw⟩ => ?_
  subst he; subst hw
  refine ⟨_, rfl, Go.Cb.post_true hW' rfl (by kernel_rfl) ?_ Try.laidOut ⟨rfl, rfl, rfl⟩ hs hm⟩
  rw [Try.params3]
  intro t ht
  simp at ht
  subst ht
  exact ⟨by kernel_rfl, of_decide_eq_true (by kernel_rfl)⟩

theorem treeShape_holds : Rows.TreeShapeSaid :=
  OpenClaim.holds_of_wide 3 Try.f3 rfl rfl rfl rfl rfl rfl rfl ⟨rfl, rfl, rfl, rfl, rfl⟩ rfl rfl rfl rfl rfl (by kernel_rfl) Try.func3 (by kernel_rfl)
    (of_decide_eq_true (by kernel_rfl)) (by unfold Func.isWrapper; first | (rw [if_pos (by decide +kernel)]; kernel_rfl) | (rw [if_neg (by decide +kernel)]; exact ⟨rfl, rfl⟩))
    (fun os started H enc _ => treeShape_lifted os started H enc)
#print axioms treeShape_holds

end Go.Proofs.Ytialecgadoepjaa
