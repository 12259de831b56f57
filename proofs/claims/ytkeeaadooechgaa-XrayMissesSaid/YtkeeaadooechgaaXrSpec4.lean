/-
  Chapter 6: the last three statements. No program in sight.
-/
import Derived.Test.YtkeeaadooechgaaXrSpec2
import Derived.Test.YtkeeaadooechgaaXrO5
set_option linter.all false
set_option maxRecDepth 100000
set_option linter.unusedVariables false
namespace Go.Xr
open Go Go.Sx
def law06u_XrayEnough (_:Crate × Int × List Int):Bool:=true
def law06u_XrayEnough_p (x:Crate × Int × List Int):Prop:=∀ n∈x.2.2,byteP n
end Go.Xr
