/-
  Chapter 6: conditions of the reference's functions.
-/
import Derived.Test.YtkeeaadooechgaaXrP11
import Derived.Test.YtkeeaadooechgaaXrAuto2
set_option linter.all false
set_option maxRecDepth 100000
set_option maxHeartbeats 4000000
set_option linter.unusedVariables false
namespace Go.Xr
open Go Go.Sx
end Go.Xr
