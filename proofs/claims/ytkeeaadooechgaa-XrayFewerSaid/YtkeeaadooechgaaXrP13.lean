/-
  Chapter 6: the reference's truths, and what it makes of them.
-/
import Derived.Test.YtkeeaadooechgaaXrP12
set_option linter.all false
set_option maxRecDepth 100000
set_option maxHeartbeats 4000000
set_option linter.unusedVariables false
namespace Go.Xr
open Go Go.Sx
end Go.Xr
