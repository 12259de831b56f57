/-
  Chapter 3: the chapter's examples, reckoned by the kernel.
-/
import Derived.Test.YtfjkenhmaebpmaaFireP6
set_option linter.all false
set_option maxRecDepth 100000
set_option linter.unusedVariables false
namespace Go.Fire
open Go Go.Sx
theorem n1:fire_Plan (kilnV,firesV.1,[0,1])=([0,200,400,600,800,800,500,200,0],0):=by kernel_rfl
theorem n2:fire_Plan (kilnV,firesV.1,[0])=([0,200,500,800,800,500,200,0],0):=by kernel_rfl
theorem v13 (x:Unit) (_:k13.pre x):V13 x :=
 ⟨trivial,trivial,trivial,trivial,trivial,trivial,trivial,trivial,trivial,trivial,trivial,trivial,trivial,Nat.le_of_ble_eq_true (by kernel_rfl),trivial,
  fun _=>Nat.le_of_ble_eq_true (by kernel_rfl),fun _=>Nat.le_of_ble_eq_true (by kernel_rfl),fun _=>Nat.le_of_ble_eq_true (by kernel_rfl),by kernel_rfl⟩
end Go.Fire
