/-
  Chapter 10: conditions of the market's functions, proved.
-/
import Derived.Test.YtdhdklojcppfcaaTtOP1
set_option linter.all false
set_option maxRecDepth 100000
set_option maxHeartbeats 4000000
set_option linter.unusedVariables false
namespace Go.Tt
open Go Go.Sx
instance (x:Int):Decidable (V210 x):=by unfold V210;exact inferInstance
end Go.Tt
