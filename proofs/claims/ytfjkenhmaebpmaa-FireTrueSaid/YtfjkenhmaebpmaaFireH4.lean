/-
  Chapter 3: the contracts of the functions of FireTrue and FireEnds.
-/
import Derived.Test.YtfjkenhmaebpmaaFireP16
set_option linter.all false
set_option maxRecDepth 100000
namespace Go.Fire
open Go Go.Sx
theorem h67 : Sx.Good Go.Proofs.Try.prog 67 k67 := con_of mixed (show Go.Proofs.Try.prog.funcs[67]? = some Go.Proofs.Try.f67 from by kernel_rfl) (by kernel_rfl) fun x hp => ⟨cx67, mkCx_ok tabs_ok4 trivial trivial trivial, by kernel_rfl, by kernel_rfl, by rw [e67]; exact v67 x hp⟩
theorem h32 : Sx.Good Go.Proofs.Try.prog 32 k32 := con_of mixed (show Go.Proofs.Try.prog.funcs[32]? = some Go.Proofs.Try.f32 from by kernel_rfl) (by kernel_rfl) fun x hp => ⟨cx32, mkCx_ok tabs_ok4 ⟨h67, h28, trivial⟩ trivial trivial, by kernel_rfl, by kernel_rfl, by rw [e32]; exact v32 x hp⟩
theorem h33 : Sx.Good Go.Proofs.Try.prog 33 k33 := con_of mixed (show Go.Proofs.Try.prog.funcs[33]? = some Go.Proofs.Try.f33 from by kernel_rfl) (by kernel_rfl) fun x hp => ⟨cx33, mkCx_ok tabs_ok4 trivial trivial trivial, by kernel_rfl, by kernel_rfl, by rw [e33]; exact v33 x hp⟩
theorem h34 : Sx.Good Go.Proofs.Try.prog 34 k34 := con_of mixed (show Go.Proofs.Try.prog.funcs[34]? = some Go.Proofs.Try.f34 from by kernel_rfl) (by kernel_rfl) fun x hp => ⟨cx34, mkCx_ok tabs_ok4 trivial trivial trivial, by kernel_rfl, by kernel_rfl, by rw [e34]; exact v34 x hp⟩
theorem h35 : Sx.Good Go.Proofs.Try.prog 35 k35 := con_of mixed (show Go.Proofs.Try.prog.funcs[35]? = some Go.Proofs.Try.f35 from by kernel_rfl) (by kernel_rfl) fun x hp => ⟨cx35, mkCx_ok tabs_ok4 trivial trivial trivial, by kernel_rfl, by kernel_rfl, by rw [e35]; exact v35 x hp⟩
end Go.Fire
