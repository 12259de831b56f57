/-
  Chapter 3: the contracts of the reference's functions of Heat, Check and Why.
-/
import Derived.Test.YtfjkenhmaebpmaaFireP11
set_option linter.all false
set_option maxRecDepth 100000
namespace Go.Fire
open Go Go.Sx
theorem h46:Sx.Good Go.Proofs.Try.prog 46 k46:=con_of mixed (show Go.Proofs.Try.prog.funcs[46]?=some Go.Proofs.Try.f46 from by kernel_rfl) (by kernel_rfl) fun x hp=>⟨cx46,mkCx_ok tabs_ok2 trivial trivial trivial,by kernel_rfl,by kernel_rfl,by rw [e46];exact v46 x hp⟩
theorem h47:Sx.Good Go.Proofs.Try.prog 47 k47:=con_of mixed (show Go.Proofs.Try.prog.funcs[47]?=some Go.Proofs.Try.f47 from by kernel_rfl) (by kernel_rfl) fun x hp=>⟨cx47,mkCx_ok tabs_ok2 trivial trivial trivial,by kernel_rfl,by kernel_rfl,by rw [e47];exact v47 x hp⟩
theorem h75:Sx.Good Go.Proofs.Try.prog 75 k75:=con_of mixed (show Go.Proofs.Try.prog.funcs[75]?=some Go.Proofs.Try.f75 from by kernel_rfl) (by kernel_rfl) fun x hp=>⟨cx75,mkCx_ok tabs_ok2 trivial trivial trivial,by kernel_rfl,by kernel_rfl,by rw [e75];exact v75 x hp⟩
end Go.Fire
