/-
  Chapter 6: the contracts of the reference's functions.
-/
import Derived.Test.YtkeeaadooechgaaXrP15
import Derived.Test.YtkeeaadooechgaaXrH1
set_option linter.all false
set_option maxRecDepth 100000
namespace Go.Xr
open Go Go.Sx
theorem h46:Sx.Good Go.Proofs.Try.prog 46 k46:=con_of mixed (show Go.Proofs.Try.prog.funcs[46]?=some Go.Proofs.Try.f46 from by kernel_rfl) (by kernel_rfl) fun x hp=>⟨cx46,mkCx_ok tabs_ok2 trivial trivial trivial,by kernel_rfl,by kernel_rfl,by rw [e46];exact v46 x hp⟩
theorem h28:Sx.Good Go.Proofs.Try.prog 28 k28:=con_of mixed (show Go.Proofs.Try.prog.funcs[28]?=some Go.Proofs.Try.f28 from by kernel_rfl) (by kernel_rfl) fun x hp=>⟨cx28,mkCx_ok tabs_ok2 ⟨h46,trivial⟩ trivial trivial,by kernel_rfl,by kernel_rfl,by rw [e28];exact v28 x hp⟩
end Go.Xr
