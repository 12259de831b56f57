/-
  Chapter 3: what the functions of FireTrue and FireEnds give, in plain Lean.
-/
import Derived.Test.YtfjkenhmaebpmaaFireP11
set_option linter.all false
set_option maxRecDepth 100000
set_option linter.unusedVariables false
namespace Go.Fire
open Go Go.Sx
def law03u_FireTrue (_:Kiln × Fire × (List Int) × List Int):Bool:=true
def law03u_FireTrue_p (x:Kiln × Fire × (List Int) × List Int):Prop:=(∀ b∈x.2.2.2,0≤b∧b≤65535)∧x.2.2.2.length≤140737488355328
def law03u_FireEnds (_:Kiln × Fire × (List Int) × Int):Bool:=true
def law03u_FireEnds_p (_:Kiln × Fire × (List Int) × Int):Prop:=True
end Go.Fire
