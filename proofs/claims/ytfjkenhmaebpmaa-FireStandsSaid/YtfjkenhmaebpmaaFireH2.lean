/-
  Chapter 3: the contracts of the reference's functions of Heat, Check and Why.
-/
import Derived.Test.YtfjkenhmaebpmaaFireP11
set_option linter.all false


set_option maxRecDepth 100000
namespace Go.Fire
open Go Go.Sx

theorem h45 : Sx.Good Go.Proofs.Try.prog 45 k45 := con_of mixed (show Go.Proofs.Try.prog.funcs[45]? = some Go.Proofs.Try.f45 from by kernel_rfl) (by kernel_rfl) fun x hp => ⟨cx45, mkCx_ok tabs_ok2 trivial trivial trivial, by kernel_rfl, by kernel_rfl, by rw [e45]; exact v45 x hp⟩
theorem h46 : Sx.Good Go.Proofs.Try.prog 46 k46 := con_of mixed (show Go.Proofs.Try.prog.funcs[46]? = some Go.Proofs.Try.f46 from by kernel_rfl) (by kernel_rfl) fun x hp => ⟨cx46, mkCx_ok tabs_ok2 trivial trivial trivial, by kernel_rfl, by kernel_rfl, by rw [e46]; exact v46 x hp⟩
theorem h47 : Sx.Good Go.Proofs.Try.prog 47 k47 := con_of mixed (show Go.Proofs.Try.prog.funcs[47]? = some Go.Proofs.Try.f47 from by kernel_rfl) (by kernel_rfl) fun x hp => ⟨cx47, mkCx_ok tabs_ok2 trivial trivial trivial, by kernel_rfl, by kernel_rfl, by rw [e47]; exact v47 x hp⟩
theorem h75 : Sx.Good Go.Proofs.Try.prog 75 k75 := con_of mixed (show Go.Proofs.Try.prog.funcs[75]? = some Go.Proofs.Try.f75 from by kernel_rfl) (by kernel_rfl) fun x hp => ⟨cx75, mkCx_ok tabs_ok2 trivial trivial trivial, by kernel_rfl, by kernel_rfl, by rw [e75]; exact v75 x hp⟩
theorem h76 : Sx.Good Go.Proofs.Try.prog 76 k76 := con_of mixed (show Go.Proofs.Try.prog.funcs[76]? = some Go.Proofs.Try.f76 from by kernel_rfl) (by kernel_rfl) fun x hp => ⟨cx76, mkCx_ok tabs_ok2 ⟨h46, trivial⟩ trivial trivial, by kernel_rfl, by kernel_rfl, by rw [e76]; exact v76 x hp⟩
theorem h51 : Sx.Good Go.Proofs.Try.prog 51 k51 := con_of mixed (show Go.Proofs.Try.prog.funcs[51]? = some Go.Proofs.Try.f51 from by kernel_rfl) (by kernel_rfl) fun x hp => ⟨cx51, mkCx_ok tabs_ok2 ⟨h47, h75, h76, trivial⟩ trivial trivial, by kernel_rfl, by kernel_rfl, by rw [e51]; exact v51 x hp⟩
theorem h74 : Sx.Good Go.Proofs.Try.prog 74 k74 := con_of mixed (show Go.Proofs.Try.prog.funcs[74]? = some Go.Proofs.Try.f74 from by kernel_rfl) (by kernel_rfl) fun x hp => ⟨cx74, mkCx_ok tabs_ok2 ⟨h30, trivial⟩ trivial trivial, by kernel_rfl, by kernel_rfl, by rw [e74]; exact v74 x hp⟩
theorem h50 : Sx.Good Go.Proofs.Try.prog 50 k50 := con_of mixed (show Go.Proofs.Try.prog.funcs[50]? = some Go.Proofs.Try.f50 from by kernel_rfl) (by kernel_rfl) fun x hp => ⟨cx50, mkCx_ok tabs_ok2 ⟨h29, h74, h31, trivial⟩ trivial trivial, by kernel_rfl, by kernel_rfl, by rw [e50]; exact v50 x hp⟩
theorem h15 : Sx.Good Go.Proofs.Try.prog 15 k15 := con_of mixed (show Go.Proofs.Try.prog.funcs[15]? = some Go.Proofs.Try.f15 from by kernel_rfl) (by kernel_rfl) fun x hp => ⟨cx15, mkCx_ok tabs_ok2 ⟨h29, h44, h46, h45, h47, trivial⟩ trivial trivial, by kernel_rfl, by kernel_rfl, by rw [e15]; exact v15 x hp⟩
theorem h17 : Sx.Good Go.Proofs.Try.prog 17 k17 := con_of mixed (show Go.Proofs.Try.prog.funcs[17]? = some Go.Proofs.Try.f17 from by kernel_rfl) (by kernel_rfl) fun x hp => ⟨cx17, mkCx_ok tabs_ok2 ⟨h50, h51, trivial⟩ trivial trivial, by kernel_rfl, by kernel_rfl, by rw [e17]; exact v17 x hp⟩
theorem h19 : Sx.Good Go.Proofs.Try.prog 19 k19 := con_of mixed (show Go.Proofs.Try.prog.funcs[19]? = some Go.Proofs.Try.f19 from by kernel_rfl) (by kernel_rfl) fun x hp => ⟨cx19, mkCx_ok tabs_ok2 ⟨h50, h44, h51, trivial⟩ trivial trivial, by kernel_rfl, by kernel_rfl, by rw [e19]; exact v19 x hp⟩
end Go.Fire
