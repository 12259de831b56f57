/-
  Chapter 10: OrderLacks.
-/
import Derived.Test.YtdpfmofgibmifaaOrdR1
set_option linter.all false
set_option maxRecDepth 100000
set_option maxHeartbeats 4000000
set_option linter.unusedVariables false
namespace Go.Ord
open Go Go.Sx
end Go.Ord
