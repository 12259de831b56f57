/-
  Chapter 10: conditions of Meets, Lack and Accept, proved.
-/
import Derived.Test.YtdhdklojcppfcaaTtOP2
set_option linter.all false
set_option maxRecDepth 100000
set_option maxHeartbeats 4000000
set_option linter.unusedVariables false
namespace Go.Tt
open Go Go.Sx
end Go.Tt
