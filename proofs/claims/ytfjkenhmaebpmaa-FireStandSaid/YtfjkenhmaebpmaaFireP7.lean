/-
  Chapter 3: the chapter's examples, reckoned by the kernel.
-/
import Derived.Test.YtfjkenhmaebpmaaFireP6
set_option linter.all false
set_option maxRecDepth 100000
set_option linter.unusedVariables false
namespace Go.Fire
open Go Go.Sx
theorem n1 : fire_Plan (kilnV, firesV.1, [0, 1]) = ([0, 200, 400, 600, 800, 800, 500, 200, 0], 0) := by kernel_rfl
theorem n2 : fire_Plan (kilnV, firesV.1, [0]) = ([0, 200, 500, 800, 800, 500, 200, 0], 0) := by kernel_rfl
theorem n3 : fire_Stand (kilnV, [firesV.2, firesV.1], programV) = ([1, 0], 0) := by kernel_rfl
theorem n4 : fire_Stand (kilnV, [firesV.1, firesV.2], programV) = ([0, 1], 0) := by kernel_rfl
theorem n5 : fire_Stand (kilnV, [firesV.1, firesV.1], programV) = ([0, -1], 0) := by kernel_rfl
theorem n6 : fire_Check (kilnV, firesV.1, programV) = ([1], 0) := by kernel_rfl
theorem n7 : fire_Check (kilnV, firesV.2, programV) = ([], 0) := by kernel_rfl
theorem v13 (x : Unit) (_ : k13.pre x) : V13 x :=
 ⟨trivial, trivial, trivial, trivial, trivial, trivial, trivial, trivial, trivial, trivial, trivial, trivial, trivial, Nat.le_of_ble_eq_true (by kernel_rfl), trivial,
  fun _ => Nat.le_of_ble_eq_true (by kernel_rfl), fun _ => Nat.le_of_ble_eq_true (by kernel_rfl), fun _ => Nat.le_of_ble_eq_true (by kernel_rfl), by kernel_rfl⟩
theorem v6 (x : Unit) (_ : k6.pre x) : V6 x := by
 refine ⟨trivial, trivial, trivial, trivial, trivial, trivial, trivial, trivial, trivial, trivial, trivial, trivial, trivial, trivial, trivial, trivial, trivial, Nat.le_of_ble_eq_true (by kernel_rfl), trivial, trivial, Nat.le_of_ble_eq_true (by kernel_rfl), trivial,
  fun _ => trivial, fun h => absurd (h.symm.trans (by kernel_rfl)) Bool.false_ne_true.symm, fun _ => ⟨fun _ => trivial, fun _ => Nat.le_of_ble_eq_true (by kernel_rfl), fun _ => Nat.le_of_ble_eq_true (by kernel_rfl), fun _ => Nat.le_of_ble_eq_true (by kernel_rfl), by kernel_rfl⟩⟩
end Go.Fire
