/-
  Chapter 3: the contracts of the functions of FirePlan and FireLess.
-/
import Derived.Test.YtfjkenhmaebpmaaFireP19
set_option linter.all false
set_option maxRecDepth 100000
namespace Go.Fire
open Go Go.Sx
theorem h36:Sx.Good Go.Proofs.Try.prog 36 k36:=con_of mixed (show Go.Proofs.Try.prog.funcs[36]?=some Go.Proofs.Try.f36 from by kernel_rfl) (by kernel_rfl) fun x hp=>⟨cx36,mkCx_ok tabs_ok5 ⟨h44,trivial⟩ trivial trivial,by kernel_rfl,by kernel_rfl,by rw [e36];exact v36 x hp⟩
end Go.Fire
