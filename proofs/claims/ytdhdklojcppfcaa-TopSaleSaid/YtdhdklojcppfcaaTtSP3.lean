/-
  Shade: how black leads can be, and which shades they have.
-/
import Derived.Test.YtdhdklojcppfcaaTtSP2
set_option linter.all false
set_option maxRecDepth 100000
set_option maxHeartbeats 4000000
set_option linter.unusedVariables false
namespace Go.Tt
open Go Go.Sx
end Go.Tt
