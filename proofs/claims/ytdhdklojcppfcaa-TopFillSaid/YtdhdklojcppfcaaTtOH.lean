/-
  Order: the contracts.
-/
import Derived.Test.YtdhdklojcppfcaaTtOP8
set_option linter.all false
set_option maxRecDepth 100000
namespace Go.Tt
open Go Go.Sx
theorem h87:Sx.GoodN Go.Proofs.Try.prog 87 k87:=ncon_of mixed (show Go.Proofs.Try.prog.funcs[87]?=some Go.Proofs.Try.f87 from by kernel_rfl) (by kernel_rfl) fun x hp=>⟨cx87,mkCx_ok tabs_ok trivial trivial trivial,by kernel_rfl,by kernel_rfl,by rw [e87];exact v87 x hp⟩
end Go.Tt
