/-
  TopFill: what its functions give.
-/
import Derived.Test.YtdhdklojcppfcaaTtLSpec
import Derived.Test.YtdhdklojcppfcaaTtRSpec
set_option linter.all false
set_option maxRecDepth 100000
set_option linter.unusedVariables false
namespace Go.Tt
open Go Go.Sx
abbrev noL:Leads:=((0,0),(0,0),0,[],(0,0),(0,0),0)
abbrev noS:Shade:=((0,0),(0,0),0,0)
def zdI (x:Span × Span):Bool:=inS x.1 x.2
def top_TopFill_1u_p (_:Span × Span):Prop:=True
abbrev SureIn:=Int × Int × Fun (Span × Span) Bool × (List Span) × (List Shade) × List Leads
def zbT (x:SureIn):Bool:=(x.2.2.1.val (x.2.2.2.1.getD x.1.toNat (0,0),(x.2.2.2.2.1.getD x.2.1.toNat noS).1)&&x.2.2.1.val ((x.2.2.2.2.2.getD x.1.toNat noL).2.2.2.2.1,(x.2.2.2.2.1.getD x.2.1.toNat noS).2.1))&&x.2.2.1.val ((x.2.2.2.2.2.getD x.1.toNat noL).2.2.2.2.2.1,(x.2.2.2.2.1.getD x.2.1.toNat noS).2.2)
def zce (x:SureIn):Prop:=((0<=x.1∧x.1<(x.2.2.2.1.length:Int))∧(0<=x.2.1∧x.2.1<(x.2.2.2.2.1.length:Int))∧x.1<(x.2.2.2.2.2.length:Int))∧∀ a,x.2.2.1.pre a
def zcj (_:Unit):Bool:=true
def zbG (_:Unit):Prop:=True
abbrev FillIn:=(List Tint) × (List Leads) × (List Shade) × List Int
def zaZ (_:FillIn):Bool:=true
def top_TopFill_p (_:FillIn):Prop:=True
abbrev ldF (x:FillIn) (i:Int):Leads:=x.2.1.getD i.toNat noL
abbrev inF:Fun (Span × Span) Bool:=⟨top_TopFill_1u_p,zdI⟩
end Go.Tt
