/-
  The tree's types, and slices.Clone, Insert and Delete at its entries and at its nodes.
-/
import Derived.Test.YtialecgadoepjaaSh
import Derived.Test.YtialecgadoepjaaOps
import Derived.Lib.Overlaps
set_option linter.unusedVariables false
set_option linter.unusedSimpArgs false
namespace Go.Cb

abbrev V1 := {v : Value // one v = true}
abbrev Ent := ByteArray × V1
def encE (e : Ent) : List Value := [.string e.1, e.2.1]
def encP (p : Nat) : List Value := [ptr p 0]
theorem enE : En encE 2 := ⟨fun _ => rfl, fun x v hv => by simp [encE] at hv; rcases hv with rfl | rfl; rfl; exact x.2.2⟩
theorem enP : En encP 1 := ⟨fun _ => rfl, fun x v hv => by simp [encP] at hv; subst hv; rfl⟩

theorem T37 : SlT Pg 37 40 2 := slT_of (by kernel_rfl)
theorem T98 : SlT Pg 98 55 1 := slT_of (by kernel_rfl)
theorem fld100_0 (b o : Nat) : fldA Pg 100 (ptr b o) 0 = some (ptr b o) := by kernel_rfl
theorem fld100_1 (b o : Nat) : fldA Pg 100 (ptr b o) 1 = some (ptr b (o + 1)) := by kernel_rfl
theorem fld40_0 (b o : Nat) : fldA Pg 40 (ptr b o) 0 = some (ptr b o) := by kernel_rfl
theorem fld40_1 (b o : Nat) : fldA Pg 40 (ptr b o) 1 = some (ptr b (o + 1)) := by kernel_rfl
theorem a37 : aggT Pg 37 = some false := by kernel_rfl
theorem a98 : aggT Pg 98 = some false := by kernel_rfl
theorem a55 : aggT Pg 55 = some false := by kernel_rfl
theorem a9 : aggT Pg 9 = some false := by kernel_rfl
theorem a3 : aggT Pg 3 = some false := by kernel_rfl
theorem a40 : aggT Pg 40 = some true := by kernel_rfl
end Go.Cb
