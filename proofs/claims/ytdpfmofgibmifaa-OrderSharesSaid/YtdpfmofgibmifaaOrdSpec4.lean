/-
  Chapter 10: Share of the reference, and OrderShares. No program in sight.
-/
import Derived.Test.YtdpfmofgibmifaaOrdAuto2
set_option linter.all false
set_option maxRecDepth 100000
set_option linter.unusedVariables false
namespace Go.Ord
open Go Go.Sx
def zaV (x:(List Int) × Int × Int):List Int:=x.1.set x.2.1.toNat (x.1.getD x.2.1.toNat 0 - x.2.2)
def zbD (x:(List Int) × Int × Int):Prop:=x.1.length<=8∧(∀ n∈x.1,amount n)∧(0<=x.2.1∧x.2.1<(x.1.length:Int))∧amount x.2.2
def zbr (x:Case × List Int):Int:=x.2.sum - (mostV (lackM (caseM x.1 x.2)) (setsTo (2^x.2.length))).2
def zei (x:Case × List Int):Prop:=CaseOk x.1 x.2
def zbd (x:Sale):(List (List Int)) × Int:=zam x
def ref10u_Share_p (x:Sale):Prop:=short x
def zcb (_:Sale):Bool:=true
def zdy (_:Sale):Prop:=True
end Go.Ord
