/-
  Chapter 3: what the functions of FirePlan and FireLess give, in plain Lean.
-/
import Derived.Test.YtfjkenhmaebpmaaFireP11
set_option linter.all false
set_option maxRecDepth 100000
set_option linter.unusedVariables false
namespace Go.Fire
open Go Go.Sx
def ref03u_Places (x:Kiln × List Int):Bool:=placesB x.1 x.2 (-1)&&decide (0<(x.2.length:Int))
def ref03u_Places_p (x:Kiln × List Int):Prop:=x.1.1.length≤big∧x.2.length≤big
def law03u_FirePlan (_:Kiln × Fire × (List Int) × List Int):Bool:=true
def law03u_FirePlan_p (x:Kiln × Fire × (List Int) × List Int):Prop:=∀ b∈x.2.2.2,0≤b∧b≤255
end Go.Fire
