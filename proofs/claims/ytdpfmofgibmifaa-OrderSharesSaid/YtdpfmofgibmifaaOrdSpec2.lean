/-
  Chapter 10: what each function of the reference gives, and the statements. No program in sight.
-/
import Derived.Test.YtdpfmofgibmifaaOrdSpec
set_option linter.all false
set_option maxRecDepth 100000
set_option linter.unusedVariables false
namespace Go.Ord
open Go Go.Sx
abbrev Case:=(List Int) × List (List Bool)
def caseM (c:Case) (asked:List Int):Market:=(asked,c.1,c.2.map setOf)
def noSupply:Supply:=(0,(0,0),0,0)
def caseOf (s:Sale) (many ready:List Int):Case:=(many,(List.range s.1.length).map fun i=>s.2.map (canB (s.1.getD i noSupply).1 (ready.getD i 0)))
def worstC (s:Sale):Case:=caseOf s (s.1.map worstMany) (s.1.map worstReady)
def bestC (s:Sale):Case:=caseOf s (s.1.map bestMany) (s.1.map bestReady)
def askedV (s:Sale):List Int:=s.2.map fun o=>o.2.1
structure CaseOk (c:Case) (asked:List Int):Prop where
 mo:MarketOk (caseM c asked)
 rows:∀ l∈c.2,l.length=asked.length
def short (s:Sale):Prop:=s.1.length<=16∧s.2.length<=16
def under (n:Nat) (X:Int):Prop:=0<=X∧X<2^n
def zak (n:Int):Int:=2^n.toNat
def zbF (n:Int):Prop:=0<=n∧n<=62
def zaG (x:Int × Int):Bool:=hasB x.1 x.2
def zbt (x:Int × Int):Prop:=(0<=x.1∧x.1<=topN)∧0<=x.2∧x.2<=62
def zdb (x:Int):Int:=sizeV x
def zeG (x:Int):Prop:=0<=x∧x<=topN
def zaP (x:Sale):Bool:=saleB x
def zcs (x:Sale):Prop:=short x
def zat (x:Sale × (List Int) × List Int):Case:=caseOf x.1 x.2.1 x.2.2
def zcg (x:Sale × (List Int) × List Int):Prop:=saleB x.1=true∧x.2.2.length=x.1.1.length
def zal (x:Sale):List Int:=askedV x
def zbW (x:Sale):Prop:=short x
def zau (x:Sale):Case:=worstC x
def zcC (x:Sale):Prop:=saleB x=true
def zeH (x:Sale):Case:=bestC x
def ref10u_Best_p (x:Sale):Prop:=saleB x=true
def zaR (x:Case × (List Int) × Int):Int:=lackM (caseM x.1 x.2.1) x.2.2
def zej (x:Case × (List Int) × Int):Prop:=CaseOk x.1 x.2.1∧under x.2.1.length x.2.2
def zb (x:Case × (List Int) × Int):Bool:=meetsM (caseM x.1 x.2.1) x.2.2
def zcN (x:Case × (List Int) × Int):Prop:=CaseOk x.1 x.2.1∧under x.2.1.length x.2.2
def zd (x:Case × List Int):Int × Int:=mostV (lackM (caseM x.1 x.2)) (setsTo (2^x.2.length))
def ref10u_most_p (x:Case × List Int):Prop:=CaseOk x.1 x.2
def zbs (x:Sale):Int × Int:=zaj x
def ref10u_Meets_p (x:Sale):Prop:=short x
def zcf (x:Sale):Int × Int × Int:=zaw x
def ref10u_Lack_p (x:Sale):Prop:=short x
def zbi (x:Sale):Int × Int × Int:=zaf x
def ref10u_Accept_p (x:Sale):Prop:=short x
def zbn (x:Sale × Int):Bool:=(decide (16<(x.1.1.length:Int))||decide (16<(x.1.2.length:Int)))||(saleB x.1&&decide (x.2<(x.1.2.length:Int)))
def zdn (_:Sale × Int):Prop:=True
def zdh (_:Sale):Bool:=true
def law10u_OrderMeets_p (_:Sale):Prop:=True
def pickV (s:Span) (b:Int):Int:=s.1+b % (s.2 - s.1+1)
def zdO (x:Span × Int):Int:=pickV x.1 x.2
def zeP (x:Span × Int):Prop:=(0<=x.1.1∧x.1.1<=x.1.2∧x.1.2<=topN)∧0<=x.2∧x.2<4294967296
def zbT (_:Sale × List Int):Bool:=true
def law10u_OrderTrue_p (x:Sale × List Int):Prop:=x.2.length<=140737488355328∧∀ b∈x.2,0<=b∧b<4294967296
def law10u_OrderCases (_:Sale):Bool:=true
def law10u_OrderCases_p (_:Sale):Prop:=True
def law10u_OrderLacks (_:Sale × Int):Bool:=true
def law10u_OrderLacks_p (x:Sale × Int):Prop:=0<=x.2∧x.2<256
def law10u_OrderShare (_:Sale):Bool:=true
def law10u_OrderShare_p (_:Sale):Prop:=True
end Go.Ord
