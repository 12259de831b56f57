/-
  TopSold: what its functions give.
-/
import Derived.Test.YtdhdklojcppfcaaTtSSpec
set_option linter.all false
set_option maxRecDepth 100000
set_option linter.unusedVariables false
namespace Go.Tt
open Go Go.Sx
def inS (a b:Span):Bool:=decide (b.1<=a.1)&&decide (a.2<=b.2)
def zaH (x:Span × Span):Bool:=inS x.1 x.2
def zcd (_:Span × Span):Prop:=True
def zcW (_:Unit):Bool:=true
def zbY (_:Unit):Prop:=True
def zbB (_:(List Tint) × (List Leads) × (List Shade) × List Order):Bool:=true
def top_TopSold_p (_:(List Tint) × (List Leads) × (List Shade) × List Order):Prop:=True
abbrev SoldIn:=(List Tint) × (List Leads) × (List Shade) × List Order
abbrev ldS (x:SoldIn) (i:Int):Leads:=x.2.1.getD i.toNat ((0,0),(0,0),0,[],(0,0),(0,0),0)
end Go.Tt
