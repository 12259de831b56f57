/-
  Chapter 6: XrayOwns. No program in sight.
-/
import Derived.Test.YtkeeaadooechgaaXrSpec2
set_option linter.all false
set_option maxRecDepth 100000
set_option linter.unusedVariables false
namespace Go.XrN
open Go Go.Sx Go.Xr
def law06u_XrayOwns (_:Crate × (List Look) × (List Spot) × Int):Bool:=true
def law06u_XrayOwns_p (_:Crate × (List Look) × (List Spot) × Int):Prop:=True
end Go.XrN
