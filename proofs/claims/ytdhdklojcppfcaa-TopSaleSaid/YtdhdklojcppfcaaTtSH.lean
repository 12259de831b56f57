/-
  Shade: the contracts.
-/
import Derived.Test.YtdhdklojcppfcaaTtSP3
set_option linter.all false
set_option maxRecDepth 100000
open Go.Proofs.Try
namespace Go.Tt
open Go Go.Sx
theorem h62:Sx.Good prog 62 k62:=con_of mixed (fn:=f62) (by kernel_rfl) (by kernel_rfl) fun x hp=>⟨cx62,mkCx_ok zpC trivial trivial trivial,by kernel_rfl,by kernel_rfl,by rw [e62];exact v62 x hp⟩
end Go.Tt
