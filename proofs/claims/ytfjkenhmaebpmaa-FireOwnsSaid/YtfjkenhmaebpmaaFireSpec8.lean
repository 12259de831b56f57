/-
  Chapter 3: FireOwns: what it gives.
-/
import Derived.Test.YtfjkenhmaebpmaaFireP8
set_option linter.all false
set_option maxRecDepth 100000
set_option linter.unusedVariables false
namespace Go.FireN
open Go Go.Sx Go.Fire
def law03u_FireOwns (_:Kiln × (List Fire) × (List Int) × List Int):Bool:=true
def law03u_FireOwns_p (_:Kiln × (List Fire) × (List Int) × List Int):Prop:=True
end Go.FireN
