/-
  Chapter 10: conditions of the examples, proved.
-/
import Derived.Test.YtdhdklojcppfcaaTtOP7
set_option linter.all false
set_option maxRecDepth 100000
set_option maxHeartbeats 4000000
set_option linter.unusedVariables false
namespace Go.Tt
open Go Go.Sx
end Go.Tt
