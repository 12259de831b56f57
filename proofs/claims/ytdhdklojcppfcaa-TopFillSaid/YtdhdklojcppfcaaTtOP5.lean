/-
  Chapter 10: the conditions of push and fill, proved.
-/
import Derived.Test.YtdhdklojcppfcaaTtOP4
set_option linter.all false
set_option maxRecDepth 100000
set_option maxHeartbeats 4000000
set_option linter.unusedVariables false
namespace Go.Tt
open Go Go.Sx
end Go.Tt
