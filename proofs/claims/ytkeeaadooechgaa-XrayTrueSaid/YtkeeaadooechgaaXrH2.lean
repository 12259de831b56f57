/-
  Chapter 6: the contracts of the reference's functions.
-/
import Derived.Test.YtkeeaadooechgaaXrP15
import Derived.Test.YtkeeaadooechgaaXrH1
set_option linter.all false
set_option maxRecDepth 100000
namespace Go.Xr
open Go Go.Sx
theorem h46:Sx.Good Go.Proofs.Try.prog 46 k46:=con_of mixed (show Go.Proofs.Try.prog.funcs[46]?=some Go.Proofs.Try.f46 from by kernel_rfl) (by kernel_rfl) fun x hp=>⟨cx46,mkCx_ok tabs_ok2 trivial trivial trivial,by kernel_rfl,by kernel_rfl,by rw [e46];exact v46 x hp⟩
theorem h39:Sx.Good Go.Proofs.Try.prog 39 k39:=con_of mixed (show Go.Proofs.Try.prog.funcs[39]?=some Go.Proofs.Try.f39 from by kernel_rfl) (by kernel_rfl) fun x hp=>⟨cx39,mkCx_ok tabs_ok2 trivial trivial trivial,by kernel_rfl,by kernel_rfl,by rw [e39];exact v39 x hp⟩
theorem h38:Sx.Good Go.Proofs.Try.prog 38 k38:=con_of mixed (show Go.Proofs.Try.prog.funcs[38]?=some Go.Proofs.Try.f38 from by kernel_rfl) (by kernel_rfl) fun x hp=>⟨cx38,mkCx_ok tabs_ok2 ⟨h39,trivial⟩ trivial trivial,by kernel_rfl,by kernel_rfl,by rw [e38];exact v38 x hp⟩
theorem h28:Sx.Good Go.Proofs.Try.prog 28 k28:=con_of mixed (show Go.Proofs.Try.prog.funcs[28]?=some Go.Proofs.Try.f28 from by kernel_rfl) (by kernel_rfl) fun x hp=>⟨cx28,mkCx_ok tabs_ok2 ⟨h46,trivial⟩ trivial trivial,by kernel_rfl,by kernel_rfl,by rw [e28];exact v28 x hp⟩
theorem h32:Sx.Good Go.Proofs.Try.prog 32 k32:=con_of mixed (show Go.Proofs.Try.prog.funcs[32]?=some Go.Proofs.Try.f32 from by kernel_rfl) (by kernel_rfl) fun x hp=>⟨cx32,mkCx_ok tabs_ok2 ⟨h38,trivial⟩ trivial trivial,by kernel_rfl,by kernel_rfl,by rw [e32];exact v32 x hp⟩
theorem h31:Sx.Good Go.Proofs.Try.prog 31 k31:=con_of mixed (show Go.Proofs.Try.prog.funcs[31]?=some Go.Proofs.Try.f31 from by kernel_rfl) (by kernel_rfl) fun x hp=>⟨cx31,mkCx_ok tabs_ok2 ⟨h32,trivial⟩ trivial trivial,by kernel_rfl,by kernel_rfl,by rw [e31];exact v31 x hp⟩
end Go.Xr
