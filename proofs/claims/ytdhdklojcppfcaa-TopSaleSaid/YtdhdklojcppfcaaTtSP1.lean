/-
  Shade: the conditions.
-/
import Derived.Test.YtdhdklojcppfcaaTtSAuto
import Derived.Test.YtdhdklojcppfcaaTtMix
set_option linter.all false
set_option maxRecDepth 100000
set_option maxHeartbeats 4000000
set_option linter.unusedVariables false
namespace Go.Tt
open Go Go.Sx
theorem zpC:TabsOk Go.Proofs.Try.prog TS:=⟨by kernel_rfl,maps_ok⟩
end Go.Tt
