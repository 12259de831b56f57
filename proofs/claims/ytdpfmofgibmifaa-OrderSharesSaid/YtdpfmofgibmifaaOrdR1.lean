/-
  Chapter 10: OrderCases: the worst and the best case, as sales of their own.
-/
import Derived.Test.YtdpfmofgibmifaaOrdQ1
set_option linter.all false
set_option maxRecDepth 100000
set_option maxHeartbeats 4000000
set_option linter.unusedVariables false
namespace Go.Ord
open Go Go.Sx
end Go.Ord
