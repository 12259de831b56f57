/-
  Chapter 3: what the reference's functions of Heat, Check and Why give, in plain Lean.
-/
import Derived.Test.YtfjkenhmaebpmaaFireP8
set_option linter.all false
set_option maxRecDepth 100000
set_option linter.unusedVariables false
namespace Go.Fire
open Go Go.Sx
abbrev noPlace:Place:=((0,0),0,0)
def placeOk (k:Kiln) (place:Int):Prop:=kilnB k=true∧0≤place∧place<(k.1.length:Int)
def ref03u_Least (x:Kiln × Int × Int):Int:=leastV x.1.2.1 (x.1.1.getD x.2.1.toNat noPlace) x.2.2
def ref03u_Least_p (x:Kiln × Int × Int):Prop:=placeOk x.1 x.2.1∧setOk x.2.2
def ref03u_Most (x:Kiln × Int × Int):Int:=mostV x.1.2.1 (x.1.1.getD x.2.1.toNat noPlace) x.2.2
def ref03u_Most_p (x:Kiln × Int × Int):Prop:=placeOk x.1 x.2.1∧setOk x.2.2
def moreV (err:Int) (p:Place) (before now:Int):Int:=max 0 (p.1.2*(now+err - max 0 (before - err)))
def ref03u_More (x:Kiln × Int × Int × Int):Int:=moreV x.1.2.1 (x.1.1.getD x.2.1.toNat noPlace) x.2.2.1 x.2.2.2
def ref03u_More_p (x:Kiln × Int × Int × Int):Prop:=placeOk x.1 x.2.1∧setOk x.2.2.1∧setOk x.2.2.2
def standAt (k:Kiln) (f:Fire) (place:Int):Stand:=(k,f,k.1.getD place.toNat noPlace)
def ref03u_Heat (x:Kiln × Int × Int):(Int × Int) × Int:=heatOf x.1 x.2.1 x.2.2
def ref03u_Heat_p (x:Kiln × Int × Int):Prop:=x.1.1.length≤big
def ref03u_Check (x:Kiln × Fire × List Int):(List Int) × Int:=checkV x.1 x.2.1 x.2.2
def ref03u_Check_p (x:Kiln × Fire × List Int):Prop:=x.1.1.length≤big
def ref03u_Why (x:Kiln × Fire × (List Int) × Int):Int × Int × Int:=whyV x.1 x.2.1 x.2.2.1 x.2.2.2
def ref03u_Why_p (x:Kiln × Fire × (List Int) × Int):Prop:=x.1.1.length≤big
def law03u_FireChecks (_:Kiln × Fire × (List Int) × Int × Int):Bool:=true
def law03u_FireChecks_p (_:Kiln × Fire × (List Int) × Int × Int):Prop:=True
end Go.Fire
