/-
  TreeNil is true at every input, and leaves the input as it was. No condition.
-/
import Derived.Test.YtialecgadoepjaaWr
import Derived.Test.YtialecgadoepjaaNi
import Derived.SizedLaws
set_option linter.unusedVariables false
set_option linter.unusedSimpArgs false
namespace Go.Proofs.Ytialecgadoepjaa
open Go.ChangeShapes Go.WideShapes Go.ChangeAt Go.RowKit

theorem Try.own : ownKnob Try.prog.godebug = none := by kernel_rfl
theorem Try.laidOut : laidOutB Try.prog = true := by kernel_rfl

set_option maxRecDepth 100000 in
theorem treeNil_lifted (os : Os) (started : os.Started) (H : Type) (enc : TypeId × Value → H) :
    ReturnsInHanded {} Try.checked os 7 .any (Rows.treeNilSpec.pre6 enc Try.prog Try.f7 Rows.treeNilRow.domain false) (Rows.treeNilSpec.post enc Try.prog Try.f7 false true false false) := by
  refine returnsInHanded_of_change_sized (C := Try.checked) Try.own started (by kernel_rfl) Try.func7
    (ChangeSpec.witness6 (enc := enc) (C := Try.checked) false ⟨#[], #[.string { data := #[] }, .int .i64 0], []⟩ 8 (by kernel_rfl) (by kernel_rfl) (by kernel_rfl) (by kernel_rfl)) ?_
  intro W base args ds gs before hval0 hW hcnd hwt _
  have hval : ∀ (j : Nat) t v, Try.f7.params[j]? = some t → args[j]? = some v → Value.okWide Try.prog W .any base t v := hval0
  have hW' := hW
  obtain ⟨p, q, hA0, hV, rfl, hfz, hnd⟩ := hW
  have hA : DataW.TrodAll enc Try.prog W 0 (fun _ => true) true Try.f7.params.toList args.toList ds p := hA0
  rw [Try.params7] at hA hval
  obtain ⟨v0, vs, d0, ds', p0, p1, e0, e1, e2, h0, h1⟩ := trodAll_cons hA
  obtain ⟨v1, vs1, d1, ds1, p2, p3, rfl, rfl, rfl, h2, h3⟩ := trodAll_cons h1
  obtain ⟨rfl, rfl, rfl⟩ := trodAll_nil h3
  obtain ⟨rfl, rfl⟩ := trodVars_none hV
  have hargs : args = #[v0, v1] := Array.toList_inj.1 e0
  subst hargs e1 e2
  obtain ⟨key, rfl⟩ := okWide_string Try.underlying9 (hval 0 9 v0 rfl rfl)
  obtain ⟨n, rfl⟩ := okWide_int Try.underlying3 (hval 1 3 v1 rfl rfl)
  obtain ⟨fu, hf⟩ := h0
  obtain ⟨s, es, hd, _⟩ := DataW.trod_string Try.underlying9 hf
  have es : s = key := by
    have : (Value.string key).cells.toList = [.string key] := rfl
    rw [this] at es
    simp at es
    exact es.symm
  subst es
  have hd0 : d0 = .lit (.string s.data.toList) := congrArg Prod.fst hd
  subst hd0
  have hsz : s.size ≤ 2 ^ 62 := by
    have hh : (DataW.weightsEach Try.prog (Try.f7.params.toList ++ Rows.treeNilSpec.plain.varTypes Try.prog) ([DataW.lit (.string s.data.toList), d1] ++ [])).all (· ≤ reachBytes) = true := hwt
    rw [Try.params7] at hh
    simp only [List.cons_append, DataW.weightsEach, DataW.weights, List.all_append, List.all_cons, Bool.and_eq_true, decide_eq_true_eq] at hh
    have h9 : s.data.toList.length ≤ reachBytes := hh.1
    have h10 : s.data.toList.length = s.size := Array.length_toList
    have h11 : reachBytes = 0x7ffffffff000 := rfl
    omega
  clear hA0 hval0
  obtain ⟨x, W', hrun, rfl, hs, hm⟩ := Go.Cb.nil_ok (F := [Go.Cb.all W]) (n := n) hsz (Go.Cb.Sat.all W)
  refine (Go.Cb.Fn_calls (by kernel_rfl) hrun).mono fun e W'' ⟨he, hw⟩ => ?_
  subst he; subst hw
  refine ⟨_, rfl, Go.Cb.post_true hW' rfl (by kernel_rfl) ?_ Try.laidOut ⟨rfl, rfl, rfl⟩ hs hm⟩
  rw [Try.params7]
  intro t ht
  simp at ht
  rcases ht with rfl | rfl <;> exact ⟨by kernel_rfl, of_decide_eq_true (by kernel_rfl)⟩

theorem treeNil_holds : Rows.TreeNilSaid :=
  OpenClaim.holds_of_wide 7 Try.f7 rfl rfl rfl rfl rfl rfl rfl ⟨rfl, rfl, rfl, rfl, rfl⟩ rfl rfl rfl rfl rfl (by kernel_rfl) Try.func7 (by kernel_rfl)
    (of_decide_eq_true (by kernel_rfl)) (by unfold Func.isWrapper; first | (rw [if_pos (by decide +kernel)]; kernel_rfl) | (rw [if_neg (by decide +kernel)]; exact ⟨rfl, rfl⟩))
    (fun os started H enc _ => treeNil_lifted os started H enc)
#print axioms treeNil_holds

end Go.Proofs.Ytialecgadoepjaa
