/-
  Chapter 3: the reference's Broken finds what the rules find; its Check and Why; FireChecks.
-/
import Derived.Test.YtfjkenhmaebpmaaFireP9
set_option linter.all false
set_option maxRecDepth 100000
set_option linter.unusedVariables false
namespace Go.Fire
open Go Go.Sx
theorem more_le {a b:Int} (hb:0≤b):decide (b<max 0 a)=!decide (a≤b):=by
 by_cases h:a≤b
 ·rw [decide_eq_true h,decide_eq_false (by omega)];rfl
 ·rw [decide_eq_false h,decide_eq_true (by omega)];rfl
end Go.Fire
