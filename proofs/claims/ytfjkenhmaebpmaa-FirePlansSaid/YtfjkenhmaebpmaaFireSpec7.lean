/-
  Chapter 3: what the document's Plan and its parts give, in plain Lean.
-/
import Derived.Test.YtfjkenhmaebpmaaFireH5
import Derived.Test.YtfjkenhmaebpmaaFireH2
set_option linter.all false
set_option maxRecDepth 100000
set_option linter.unusedVariables false
namespace Go.Fire
open Go Go.Sx
def atsOk (k:Kiln) (l:List Int):Prop:=kilnB k=true∧l.length≤big∧∀ n∈l,0≤n∧n<(k.1.length:Int)
def ref03u_cold (x:Kiln × (List Int) × Int × Int):Bool:=x.2.1.all fun n=>coldV (standAt x.1 (0,0,0,0,0,0) n) x.2.2.1 x.2.2.2
def ref03u_cold_p (x:Kiln × (List Int) × Int × Int):Prop:=atsOk x.1 x.2.1∧setOk x.2.2.1∧0≤x.2.2.2∧x.2.2.2≤4000
def ref03u_soak (x:Kiln × Fire × (List Int) × Int):Bool:=x.2.2.1.all fun n=>soakV (standAt x.1 x.2.1 n) x.2.2.2
def ref03u_soak_p (x:Kiln × Fire × (List Int) × Int):Prop:=atsOk x.1 x.2.2.1∧setOk x.2.2.2∧fireB x.2.1=true
def ref03u_run (x:Kiln × Fire × (List Int) × Int × Int):Int:=soakedV x.2.1 (standsOf x.1 x.2.1 x.2.2.1) x.2.2.2.2 x.2.2.2.1
def ref03u_run_p (x:Kiln × Fire × (List Int) × Int × Int):Prop:=(atsOk x.1 x.2.2.1∧setOk x.2.2.2.2∧fireB x.2.1=true)∧0≤x.2.2.2.1∧x.2.2.2.1≤x.2.1.2.2.2.1
def ref03u_follows (x:Kiln × Fire × (List Int) × Int × Int):Bool:=followsV x.1.2.2.1 x.2.1 (standsOf x.1 x.2.1 x.2.2.1) x.2.2.2.1 x.2.2.2.2
def ref03u_follows_p (x:Kiln × Fire × (List Int) × Int × Int):Prop:=(atsOk x.1 x.2.2.1∧fireB x.2.1=true)∧setOk x.2.2.2.1∧setOk x.2.2.2.2
def ref03u_Plan (x:Kiln × Fire × List Int):(List Int) × Int:=planV x.1 x.2.1 x.2.2
def ref03u_Plan_p (x:Kiln × Fire × List Int):Prop:=x.1.1.length≤big∧x.2.2.length≤big
def law03u_FirePlans (_:Kiln × Fire × List Int):Bool:=true
def law03u_FirePlans_p (_:Kiln × Fire × List Int):Prop:=True
end Go.Fire
