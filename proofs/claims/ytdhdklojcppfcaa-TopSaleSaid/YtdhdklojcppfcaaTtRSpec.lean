/-
  The reference of the boxes: what its functions give.
-/
import Derived.Test.YtdhdklojcppfcaaTtBSpec
set_option linter.all false
set_option maxRecDepth 100000
set_option linter.unusedVariables false
namespace Go.Tt
open Go Go.Sx
def zbv (x:Int × Int × Int):Bool:=inB x.1 x.2.1 x.2.2
def zdz (_:Int × Int × Int):Prop:=True
def zb (x:Int):Int:=2^x.toNat
def zec (x:Int):Prop:=0<=x∧x<=8
def zfo (x:Int × Int):Bool:=hasB x.1 x.2
def zhl (x:Int × Int):Prop:=smallSet x.1∧0<=x.2∧x.2<=8
def zhk (x:(List Int) × Int):Int:=sumV x.2 x.1
def zjd (x:(List Int) × Int):Prop:=x.1.length<=8∧(∀ n∈x.1,0<=n∧n<=most40)∧smallSet x.2
def zbW (x:(List Int) × List Pile):Bool:=boxB x.1 x.2
def zfB (_:(List Int) × List Pile):Prop:=True
end Go.Tt
