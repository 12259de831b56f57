/-
  Chapter 6: truths and looks that the statements make.
-/
import Derived.Test.YtkeeaadooechgaaXrP14
import Derived.Test.YtkeeaadooechgaaXrP8
set_option linter.all false
set_option maxRecDepth 100000
set_option maxHeartbeats 4000000
set_option linter.unusedVariables false
namespace Go.Xr
open Go Go.Sx
end Go.Xr
