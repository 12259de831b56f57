/-
  Chapter 6: the contracts of the reference's functions.
-/
import Derived.Test.YtkeeaadooechgaaXrP15
import Derived.Test.YtkeeaadooechgaaXrH1
set_option linter.all false
set_option maxRecDepth 100000
namespace Go.Xr
open Go Go.Sx
end Go.Xr
