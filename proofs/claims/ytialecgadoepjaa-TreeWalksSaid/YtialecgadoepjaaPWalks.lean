/-
  TreeWalks is true at every input, and leaves the input as it was. No condition.
-/
import Derived.Test.YtialecgadoepjaaWr
import Derived.Test.YtialecgadoepjaaWx
set_option linter.unusedVariables false
set_option linter.unusedSimpArgs false
namespace Go.Proofs.Ytialecgadoepjaa
open Go.ChangeShapes Go.WideShapes Go.ChangeAt Go.RowKit

theorem Try.own : ownKnob Try.prog.godebug = none := by kernel_rfl
theorem Try.laidOut : laidOutB Try.prog = true := by kernel_rfl

set_option maxRecDepth 100000 in
theorem treeWalks_lifted (os : Os) (started : os.Started) (H : Type) (enc : TypeId × Value → H) :
    ReturnsInHanded {} Try.checked os 4 .any (Rows.treeWalksSpec.pre6 enc Try.prog Try.f4 Rows.treeWalksRow.domain false) (Rows.treeWalksSpec.post enc Try.prog Try.f4 false true false false) := by
  refine returnsInHanded_of_change (C := Try.checked) Try.own started (by kernel_rfl) Try.func4
    (ChangeSpec.witness6 (enc := enc) (C := Try.checked) false ⟨#[], #[.slice none 0 0, .agg #[.string { data := #[] }, .string { data := #[] }], .int .i64 0], []⟩ 8 (by kernel_rfl) (by kernel_rfl) (by kernel_rfl) (by kernel_rfl)) ?_
  intro W base args ds gs before hval0 hW hcnd _
  have hval : ∀ (j : Nat) t v, Try.f4.params[j]? = some t → args[j]? = some v → Value.okWide Try.prog W .any base t v := hval0
  have hW' := hW
  obtain ⟨p, q, hA0, hV, rfl, hfz, hnd⟩ := hW
  have hA : DataW.TrodAll enc Try.prog W 0 (fun _ => true) true Try.f4.params.toList args.toList ds p := hA0
  rw [Try.params4] at hA hval
  obtain ⟨v0, vs, d0, ds', p0, p1, e0, e1, e2, h0, h1⟩ := trodAll_cons hA
  obtain ⟨v1, vs1, d1, ds1, p2, p3, rfl, rfl, rfl, h2, h3⟩ := trodAll_cons h1
  obtain ⟨v2, vs2, d2, ds2, p4, p5, rfl, rfl, rfl, h4, h5⟩ := trodAll_cons h3
  obtain ⟨rfl, rfl, rfl⟩ := trodAll_nil h5
  obtain ⟨rfl, rfl⟩ := trodVars_none hV
  have hargs : args = #[v0, v1, v2] := Array.toList_inj.1 e0
  subst hargs e1 e2
  obtain ⟨acts, hacts⟩ := Go.Cb.acts_of' (hval 0 22 v0 rfl rfl) h0
  obtain ⟨f, t, rfl⟩ := Go.Cb.span_of (hval 1 36 v1 rfl rfl) h2
  obtain ⟨m, rfl⟩ := okWide_int Try.underlying3 (hval 2 3 v2 rfl rfl)
  clear hA0 hval0
  obtain ⟨x, W', hrun, rfl, hs, hm⟩ := Go.Cb.walks_ok (X := Go.Cb.all W) (F := []) (f := f) (t := t) (m := m) (fun k => Go.Cb.acts_all hacts k) (Go.Cb.Sat.all W)
  refine (Go.Cb.Fn_calls (by kernel_rfl) hrun).mono fun e W'' ⟨he, hw⟩ => ?_
  subst he; subst hw
  refine ⟨_, rfl, Go.Cb.post_true hW' rfl (by kernel_rfl) ?_ Try.laidOut ⟨rfl, rfl, rfl⟩ hs hm⟩
  rw [Try.params4]
  intro t ht
  simp at ht
  rcases ht with rfl | rfl | rfl <;> exact ⟨by kernel_rfl, of_decide_eq_true (by kernel_rfl)⟩

theorem treeWalks_holds : Rows.TreeWalksSaid :=
  OpenClaim.holds_of_wide 4 Try.f4 rfl rfl rfl rfl rfl rfl rfl ⟨rfl, rfl, rfl, rfl, rfl⟩ rfl rfl rfl rfl rfl (by kernel_rfl) Try.func4 (by kernel_rfl)
    (of_decide_eq_true (by kernel_rfl)) (by unfold Func.isWrapper; first | (rw [if_pos (by decide +kernel)]; kernel_rfl) | (rw [if_neg (by decide +kernel)]; exact ⟨rfl, rfl⟩))
    (fun os started H enc _ => treeWalks_lifted os started H enc)
#print axioms treeWalks_holds

end Go.Proofs.Ytialecgadoepjaa
