/-
  TreeApart is true at every input, and leaves the input as it was. No condition.
-/
import Derived.Test.YtialecgadoepjaaWr
import Derived.Test.YtialecgadoepjaaApt
set_option linter.unusedVariables false
set_option linter.unusedSimpArgs false
namespace Go.Proofs.Ytialecgadoepjaa
open Go.ChangeShapes Go.WideShapes Go.ChangeAt Go.RowKit

theorem Try.own : ownKnob Try.prog.godebug = none := by kernel_rfl
theorem Try.laidOut : laidOutB Try.prog = true := by kernel_rfl

set_option maxRecDepth 100000 in
theorem treeApart_lifted (os : Os) (started : os.Started) (H : Type) (enc : TypeId × Value → H) :
    ReturnsInHanded {} Try.checked os 5 .any (Rows.treeApartSpec.pre6 enc Try.prog Try.f5 Rows.treeApartRow.domain false) (Rows.treeApartSpec.post enc Try.prog Try.f5 false true false false) := by
  refine returnsInHanded_of_change (C := Try.checked) Try.own started (by kernel_rfl) Try.func5
    (ChangeSpec.witness6 (enc := enc) (C := Try.checked) false ⟨#[], #[.slice none 0 0, .slice none 0 0, .slice none 0 0], []⟩ 8 (by kernel_rfl) (by kernel_rfl) (by kernel_rfl) (by kernel_rfl)) ?_
  intro W base args ds gs before hval0 hW hcnd _
  have hval : ∀ (j : Nat) t v, Try.f5.params[j]? = some t → args[j]? = some v → Value.okWide Try.prog W .any base t v := hval0
  have hW' := hW
  obtain ⟨p, q, hA0, hV, rfl, hfz, hnd⟩ := hW
  have hA : DataW.TrodAll enc Try.prog W 0 (fun _ => true) true Try.f5.params.toList args.toList ds p := hA0
  rw [Try.params5] at hA hval
  obtain ⟨v0, vs, d0, ds', p0, p1, e0, e1, e2, h0, h1⟩ := trodAll_cons hA
  obtain ⟨v1, vs1, d1, ds1, p2, p3, rfl, rfl, rfl, h2, h3⟩ := trodAll_cons h1
  obtain ⟨v2, vs2, d2, ds2, p4, p5, rfl, rfl, rfl, h4, h5⟩ := trodAll_cons h3
  obtain ⟨rfl, rfl, rfl⟩ := trodAll_nil h5
  obtain ⟨rfl, rfl⟩ := trodVars_none hV
  have hargs : args = #[v0, v1, v2] := Array.toList_inj.1 e0
  subst hargs e1 e2
  obtain ⟨al, hal⟩ := Go.Cb.acts_of' (hval 0 22 v0 rfl rfl) h0
  obtain ⟨am, ham⟩ := Go.Cb.acts_of' (hval 1 22 v1 rfl rfl) h2
  obtain ⟨ao, hao⟩ := Go.Cb.acts_of' (hval 2 22 v2 rfl rfl) h4
  clear hA0 hval0
  obtain ⟨x, W', hrun, rfl, hs, hm⟩ := Go.Cb.apart_ok (X := Go.Cb.all W) (F := []) (fun k => Go.Cb.acts_all hal k) (fun k => Go.Cb.acts_all ham k) (fun k => Go.Cb.acts_all hao k) (Go.Cb.Sat.all W)
  refine (Go.Cb.Fn_calls (by kernel_rfl) hrun).mono fun e W'' ⟨he, hw⟩ => ?_
  subst he; subst hw
  refine ⟨_, rfl, Go.Cb.post_true hW' rfl (by kernel_rfl) ?_ Try.laidOut ⟨rfl, rfl, rfl⟩ hs hm⟩
  rw [Try.params5]
  intro t ht
  simp at ht
  subst ht
  exact ⟨by kernel_rfl, of_decide_eq_true (by kernel_rfl)⟩

theorem treeApart_holds : Rows.TreeApartSaid :=
  OpenClaim.holds_of_wide 5 Try.f5 rfl rfl rfl rfl rfl rfl rfl ⟨rfl, rfl, rfl, rfl, rfl⟩ rfl rfl rfl rfl rfl (by kernel_rfl) Try.func5 (by kernel_rfl)
    (of_decide_eq_true (by kernel_rfl)) (by unfold Func.isWrapper; first | (rw [if_pos (by decide +kernel)]; kernel_rfl) | (rw [if_neg (by decide +kernel)]; exact ⟨rfl, rfl⟩))
    (fun os started H enc _ => treeApart_lifted os started H enc)
#print axioms treeApart_holds

end Go.Proofs.Ytialecgadoepjaa
