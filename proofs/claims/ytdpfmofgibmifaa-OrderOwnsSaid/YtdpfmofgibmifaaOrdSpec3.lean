/-
  Chapter 10: OrderOwns. No program in sight.
-/
import Derived.Test.YtdpfmofgibmifaaOrdSpec2
set_option linter.all false
set_option maxRecDepth 100000
set_option linter.unusedVariables false
namespace Go.Ord
open Go Go.Sx
def law10u_OrderOwns (_:Sale):Bool:=true
def law10u_OrderOwns_p (_:Sale):Prop:=True
end Go.Ord
