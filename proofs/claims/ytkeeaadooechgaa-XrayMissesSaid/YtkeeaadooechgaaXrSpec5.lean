/-
  Chapter 6: the last three statements. No program in sight.
-/
import Derived.Test.YtkeeaadooechgaaXrSpec4
import Derived.Test.YtkeeaadooechgaaXrO5
set_option linter.all false
set_option maxRecDepth 100000
set_option linter.unusedVariables false
namespace Go.Xr
open Go Go.Sx
def ref06u_Missed (x:Crate × List Spot):Int × Int:=xray_Missed x
def ref06u_Missed_p (x:Crate × List Spot):Prop:=x.1.1.length≤big∧x.2.length≤big
def ref06u_missed (x:Crate × List Spot):Int:=(xray_Missed x).1
def ref06u_missed_p (x:Crate × List Spot):Prop:=x.1.1.length≤big∧x.2.length≤big
def firstS (f:Int→List Spot):List Int→List Spot
 | []=>[]
 | i::l=>cond ((f i).isEmpty) (firstS f l) (f i)
def startV (c:Crate) (S:List Spot):Int:=cond S.isEmpty 0 (posn c (S.getD (S.length - 1) (0,0))+1)
def chooseN (c:Crate) (n:Int):Nat→List Spot→List Spot
 | 0,S=>cond (decide ((xray_Missed (c,S)).1≤n)) S []
 | m+1,S=>firstS (fun i=>chooseN c n m (S++[spotAt c i])) (fromTo (startV c S) (allP c))
def ref06u_choose (x:Crate × Int × Int × List Spot):List Spot:=chooseN x.1 x.2.1 (x.2.2.1 - (x.2.2.2.length:Int)).toNat x.2.2.2
def ref06u_choose_p (x:Crate × Int × Int × List Spot):Prop:=crateB x.1=true∧(1≤x.2.2.1∧x.2.2.1≤40)∧(∀ s∈x.2.2.2,inside x.1 s)∧(x.2.2.2.length:Int)≤x.2.2.1
def m48 (x:Crate × Int × Int × List Spot):Nat:=(x.2.2.1 - (x.2.2.2.length:Int)).toNat
def ref06u_choose_q (x y:Crate × Int × Int × List Spot):Prop:=ref06u_choose_p y∧m48 y<m48 x
def ref06u_Fewest (x:Crate × Int):(List Spot) × Int:=xray_Fewest x
def ref06u_Fewest_p (x:Crate × Int):Prop:=x.1.1.length≤big
def law06u_XrayMisses (_:Crate × (List Spot) × Int):Bool:=true
def law06u_XrayMisses_p (_:Crate × (List Spot) × Int):Prop:=True
end Go.Xr
