/-
  The reference of the boxes: what its functions give.
-/
import Derived.Test.YtdhdklojcppfcaaTtBSpec
set_option linter.all false
set_option maxRecDepth 100000
set_option linter.unusedVariables false
namespace Go.Tt
open Go Go.Sx
def zbt (x:Int × Int × Int):Bool:=inB x.1 x.2.1 x.2.2
def zda (_:Int × Int × Int):Prop:=True
def zaW (x:Int):Int:=2^x.toNat
def zdt (x:Int):Prop:=0<=x∧x<=8
def ref09u_Has (x:Int × Int):Bool:=hasB x.1 x.2
def ref09u_Has_p (x:Int × Int):Prop:=smallSet x.1∧0<=x.2∧x.2<=8
def ref09u_Needs (x:(List Int) × Int):Int:=sumV x.2 x.1
def ref09u_Needs_p (x:(List Int) × Int):Prop:=x.1.length<=8∧(∀ n∈x.1,0<=n∧n<=most40)∧smallSet x.2
def zbe (x:(List Int) × List Pile):Bool:=boxB x.1 x.2
def zdu (_:(List Int) × List Pile):Prop:=True
end Go.Tt
