/-
  Chapter 6: truths and looks that the statements make.
-/
import Derived.Test.YtkeeaadooechgaaXrP14
import Derived.Test.YtkeeaadooechgaaXrP8
set_option linter.all false
set_option maxRecDepth 100000
set_option maxHeartbeats 4000000
set_option linter.unusedVariables false
namespace Go.Xr
open Go Go.Sx
theorem mod_at {n m:Int} (h0:0≤n) (hm:0<m):0≤Int.tmod n m∧Int.tmod n m<m:=⟨Int.tmod_nonneg _ h0,Int.tmod_lt_of_pos _ hm⟩
end Go.Xr
