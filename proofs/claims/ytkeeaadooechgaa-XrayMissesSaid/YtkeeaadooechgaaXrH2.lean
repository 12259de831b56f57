/-
  Chapter 6: the contracts of the reference's functions.
-/
import Derived.Test.YtkeeaadooechgaaXrP15
import Derived.Test.YtkeeaadooechgaaXrH1
set_option linter.all false
set_option maxRecDepth 100000
namespace Go.Xr
open Go Go.Sx
theorem h46:Sx.Good Go.Proofs.Try.prog 46 k46:=con_of mixed (show Go.Proofs.Try.prog.funcs[46]?=some Go.Proofs.Try.f46 from by kernel_rfl) (by kernel_rfl) fun x hp=>⟨cx46,mkCx_ok tabs_ok2 trivial trivial trivial,by kernel_rfl,by kernel_rfl,by rw [e46];exact v46 x hp⟩
theorem h39:Sx.Good Go.Proofs.Try.prog 39 k39:=con_of mixed (show Go.Proofs.Try.prog.funcs[39]?=some Go.Proofs.Try.f39 from by kernel_rfl) (by kernel_rfl) fun x hp=>⟨cx39,mkCx_ok tabs_ok2 trivial trivial trivial,by kernel_rfl,by kernel_rfl,by rw [e39];exact v39 x hp⟩
theorem h38:Sx.Good Go.Proofs.Try.prog 38 k38:=con_of mixed (show Go.Proofs.Try.prog.funcs[38]?=some Go.Proofs.Try.f38 from by kernel_rfl) (by kernel_rfl) fun x hp=>⟨cx38,mkCx_ok tabs_ok2 ⟨h39,trivial⟩ trivial trivial,by kernel_rfl,by kernel_rfl,by rw [e38];exact v38 x hp⟩
theorem h49:Sx.Good Go.Proofs.Try.prog 49 k49:=con_of mixed (show Go.Proofs.Try.prog.funcs[49]?=some Go.Proofs.Try.f49 from by kernel_rfl) (by kernel_rfl) fun x hp=>⟨cx49,mkCx_ok tabs_ok2 ⟨h38,trivial⟩ trivial trivial,by kernel_rfl,by kernel_rfl,by rw [e49];exact v49 x hp⟩
theorem h28:Sx.Good Go.Proofs.Try.prog 28 k28:=con_of mixed (show Go.Proofs.Try.prog.funcs[28]?=some Go.Proofs.Try.f28 from by kernel_rfl) (by kernel_rfl) fun x hp=>⟨cx28,mkCx_ok tabs_ok2 ⟨h46,trivial⟩ trivial trivial,by kernel_rfl,by kernel_rfl,by rw [e28];exact v28 x hp⟩
theorem h35:Sx.Good Go.Proofs.Try.prog 35 k35:=con_of mixed (show Go.Proofs.Try.prog.funcs[35]?=some Go.Proofs.Try.f35 from by kernel_rfl) (by kernel_rfl) fun x hp=>⟨cx35,mkCx_ok tabs_ok2 ⟨h46,trivial⟩ trivial trivial,by kernel_rfl,by kernel_rfl,by rw [e35];exact v35 x hp⟩
theorem h32:Sx.Good Go.Proofs.Try.prog 32 k32:=con_of mixed (show Go.Proofs.Try.prog.funcs[32]?=some Go.Proofs.Try.f32 from by kernel_rfl) (by kernel_rfl) fun x hp=>⟨cx32,mkCx_ok tabs_ok2 ⟨h38,trivial⟩ trivial trivial,by kernel_rfl,by kernel_rfl,by rw [e32];exact v32 x hp⟩
theorem h31:Sx.Good Go.Proofs.Try.prog 31 k31:=con_of mixed (show Go.Proofs.Try.prog.funcs[31]?=some Go.Proofs.Try.f31 from by kernel_rfl) (by kernel_rfl) fun x hp=>⟨cx31,mkCx_ok tabs_ok2 ⟨h32,trivial⟩ trivial trivial,by kernel_rfl,by kernel_rfl,by rw [e31];exact v31 x hp⟩
theorem h50:Sx.Good Go.Proofs.Try.prog 50 k50:=con_of mixed (show Go.Proofs.Try.prog.funcs[50]?=some Go.Proofs.Try.f50 from by kernel_rfl) (by kernel_rfl) fun x hp=>⟨cx50,mkCx_ok tabs_ok2 ⟨h32,trivial⟩ trivial trivial,by kernel_rfl,by kernel_rfl,by rw [e50];exact v50 x hp⟩
theorem h33:Sx.Good Go.Proofs.Try.prog 33 k33:=con_of mixed (show Go.Proofs.Try.prog.funcs[33]?=some Go.Proofs.Try.f33 from by kernel_rfl) (by kernel_rfl) fun x hp=>⟨cx33,mkCx_ok tabs_ok2 ⟨h39,h49,h50,trivial⟩ trivial trivial,by kernel_rfl,by kernel_rfl,by rw [e33];exact v33 x hp⟩
theorem h56:Sx.Good Go.Proofs.Try.prog 56 k56:=con_of mixed (show Go.Proofs.Try.prog.funcs[56]?=some Go.Proofs.Try.f56 from by kernel_rfl) (by kernel_rfl) fun x hp=>⟨cx56,mkCx_ok tabs_ok2 ⟨h35,h46,trivial⟩ trivial trivial,by kernel_rfl,by kernel_rfl,by rw [e56];exact v56 x hp⟩
theorem h37:Sx.Good Go.Proofs.Try.prog 37 k37:=con_of mixed (show Go.Proofs.Try.prog.funcs[37]?=some Go.Proofs.Try.f37 from by kernel_rfl) (by kernel_rfl) fun x hp=>⟨cx37,mkCx_ok tabs_ok2 ⟨h28,h56,h33,trivial⟩ trivial trivial,by kernel_rfl,by kernel_rfl,by rw [e37];exact v37 x hp⟩
theorem h15:Sx.Good Go.Proofs.Try.prog 15 k15:=con_of mixed (show Go.Proofs.Try.prog.funcs[15]?=some Go.Proofs.Try.f15 from by kernel_rfl) (by kernel_rfl) fun x hp=>⟨cx15,mkCx_ok tabs_ok2 ⟨h37,h31,trivial⟩ trivial trivial,by kernel_rfl,by kernel_rfl,by rw [e15];exact v15 x hp⟩
theorem h12:Sx.Good Go.Proofs.Try.prog 12 k12:=con_of mixed (show Go.Proofs.Try.prog.funcs[12]?=some Go.Proofs.Try.f12 from by kernel_rfl) (by kernel_rfl) fun x hp=>⟨cx12,mkCx_ok tabs_ok2 ⟨h28,trivial⟩ trivial trivial,by kernel_rfl,by kernel_rfl,by rw [e12];exact v12 x hp⟩
end Go.Xr
