/-
  Chapter 10: the conditions of fill and Share, proved.
-/
import Derived.Test.YtdhdklojcppfcaaTtOP5
set_option linter.all false
set_option maxRecDepth 100000
set_option maxHeartbeats 4000000
set_option linter.unusedVariables false
namespace Go.Tt
open Go Go.Sx
structure ShareOk (m:Market) (c:List Int):Prop where
 mo:MarketOk m
 c8:c.length=8
 cs:∀ s∈c,smallSet s
end Go.Tt
