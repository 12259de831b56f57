/-
  Shade: what each function gives. No program in sight.
-/
import Derived.Test.YtdhdklojcppfcaaTtOSpec
set_option linter.all false
set_option maxRecDepth 100000
set_option linter.unusedVariables false
namespace Go.Tt
open Go Go.Sx
abbrev Tint:=Int × Int
abbrev Stroke:=Span × Span
abbrev Leads:=Span × Span × Int × (List Stroke) × Span × Span × Int
abbrev Shade:=Span × Span × Span
abbrev Mix:=(List Tint) × Int × Int
abbrev Batch:=Leads × Span
abbrev gram:Int:=1073741824
def tintB (c:List Tint) (i:Nat):Bool:=inB (c.getD i (0,0)).2 0 200&&(i==0||(decide ((c.getD (i - 1) (0,0)).1<(c.getD i (0,0)).1)&&decide ((c.getD (i - 1) (0,0)).2<=(c.getD i (0,0)).2)))
def curveB (c:List Tint):Bool:=((inB (c.length:Int) 2 8&&(c.getD 0 (0,0)).1==0)&&(c.getD (c.length - 1) (0,0)).1==1000)&&(List.range c.length).all (tintB c)
def strokeB (s:Stroke):Bool:=spanB s.1 0 1000&&spanB s.2 1 4000
def leadsB (l:Leads):Bool:=(((spanB l.1 1 gram&&spanB l.2.1 0 gram)&&inB l.2.2.1 0 200)&&((spanB l.2.2.2.2.1 0 10000&&spanB l.2.2.2.2.2.1 0 10000)&&inB l.2.2.2.2.2.2 0 topN))&&decide ((l.2.2.2.1.length:Int)<=6)&&l.2.2.2.1.all strokeB
def shadeB (s:Shade):Bool:=spanB s.1 0 200&&(spanB s.2.1 0 10000&&spanB s.2.2 0 10000)
structure MixOk (m:Mix):Prop where
 curve:curveB m.1=true
 g:1<=m.2.1∧m.2.1<=gram
 c:0<=m.2.2∧m.2.2<=gram
def srch (f:Int->Bool):Nat->Int->Int->Int
 | 0,i,_=>i
 | n+1,i,j=>cond (decide (i<j)) (cond (f (Int.fdiv (i+j) 2)) (srch f n i (Int.fdiv (i+j) 2)) (srch f n (Int.fdiv (i+j) 2+1) j)) i
def zaq (x:Int × Int × Int):Bool:=inB x.1 x.2.1 x.2.2
def zbZ (_:Int × Int × Int):Prop:=True
def zaj (x:Span × Int × Int):Bool:=spanB x.1 x.2.1 x.2.2
def zaP (_:Span × Int × Int):Prop:=True
def zbr (x:List Tint):Bool:=curveB x
def zcZ (_:List Tint):Prop:=True
def zcu (x:Stroke):Bool:=!strokeB x
def zct (_:Stroke):Prop:=True
def zap (x:(List Stroke) × Fun Stroke Bool):Int:=ixF x.2.val x.1 0
def zaX (x:(List Stroke) × Fun Stroke Bool):Prop:=x.1.length<=big∧∀ a∈x.1,x.2.pre a
def zaB (x:(List Stroke) × Fun Stroke Bool):Bool:=x.1.any x.2.val
def zaN (x:(List Stroke) × Fun Stroke Bool):Prop:=x.1.length<=big∧∀ a∈x.1,x.2.pre a
def zau (x:(List Leads) × Fun Leads Bool):Int:=ixF x.2.val x.1 0
def zbd (x:(List Leads) × Fun Leads Bool):Prop:=x.1.length<=big∧∀ a∈x.1,x.2.pre a
def zao (x:(List Leads) × Fun Leads Bool):Bool:=x.1.any x.2.val
def zaU (x:(List Leads) × Fun Leads Bool):Prop:=x.1.length<=big∧∀ a∈x.1,x.2.pre a
def zat (x:(List Shade) × Fun Shade Bool):Int:=ixF x.2.val x.1 0
def zbc (x:(List Shade) × Fun Shade Bool):Prop:=x.1.length<=big∧∀ a∈x.1,x.2.pre a
def zam (x:(List Shade) × Fun Shade Bool):Bool:=x.1.any x.2.val
def zaC (x:(List Shade) × Fun Shade Bool):Prop:=x.1.length<=big∧∀ a∈x.1,x.2.pre a
def zdK (x:Leads):Bool:=leadsB x
def shade_isLeads_p (_:Leads):Prop:=True
def zd (x:Leads):Bool:=!leadsB x
def zcO (_:Leads):Prop:=True
def reachB (m:Mix) (i:Int):Bool:=decide (1000*m.2.1<=(m.1.getD (i+1).toNat (0,0)).1*(m.2.1+m.2.2))
def zcz (x:Mix × Int):Bool:=reachB x.1 x.2
def zcY (x:Mix × Int):Prop:=MixOk x.1∧0<=x.2∧x.2+1<(x.1.1.length:Int)
abbrev reachF (m:Mix):Fun Int Bool:=⟨fun i=>zcY (m,i),fun i=>zcz (m,i)⟩
def zcX (x:Int × Fun Int Bool):Int:=srch x.2.val x.1.toNat 0 x.1
def zcr (x:Int × Fun Int Bool):Prop:=(0<=x.1∧x.1<=1152921504606846976)∧∀ i,0<=i->i<x.1->x.2.pre i
abbrev cutS (m:Mix):Int:=zcX ((m.1.length:Int) - 2,reachF m)
def zaG (x:Int × Int):Int:=Int.tdiv x.1 x.2
def ratioOk (x:Int × Int):Prop:=(1<=x.2∧x.2<=1125899906842624)∧-1125899906842624<=x.1∧x.1<=1125899906842624
def zcs (x:Int × Int):Prop:=ratioOk x
def zaO (x:Int × Int):Int:=Int.tdiv (x.1+x.2 - 1) x.2
def zcN (x:Int × Int):Prop:=ratioOk x
abbrev aS (m:Mix):Tint:=m.1.getD (cutS m).toNat (0,0)
abbrev bS (m:Mix):Tint:=m.1.getD (cutS m+1).toNat (0,0)
def zaF (x:Mix):Int × Int:=((aS x).2*((bS x).1 - (aS x).1)*(x.2.1+x.2.2)+((bS x).2 - (aS x).2)*(1000*x.2.1 - (aS x).1*(x.2.1+x.2.2)),((bS x).1 - (aS x).1)*(x.2.1+x.2.2))
def zcA (x:Mix):Prop:=MixOk x
def boundsR (x:(List Tint) × Leads):Span:=(zaO (zaF (x.1,x.2.1.1,x.2.2.1.2)) - x.2.2.2.1,zaG (zaF (x.1,x.2.1.2,x.2.2.1.1))+x.2.2.2.1)
def zcm (x:(List Tint) × Leads):Span:=boundsR x
def zcK (x:(List Tint) × Leads):Prop:=curveB x.1=true∧leadsB x.2=true
def boundsS (x:Stroke):Span:=(zaO (1000*x.1.1,x.2.2),zaG (1000*x.1.2,x.2.1))
def zcl (x:Stroke):Span:=boundsS x
def zcJ (x:Stroke):Prop:=strokeB x=true
abbrev Src:=Fun Unit Span × Unit
abbrev zeroS:Src:=(⟨fun _=>False,fun _=>(0,0)⟩,())
abbrev recipeS (x:(List Tint) × Leads):Src:=(⟨fun _=>zcK (x.1,x.2),fun _=>zcm (x.1,x.2)⟩,())
abbrev strokeS (s:Stroke):Src:=(⟨fun _=>zcJ s,fun _=>zcl s⟩,())
def meet (a b:Span):Span:=(max a.1 b.1,min a.2 b.2)
def blackB (x:(List Tint) × Leads):Span:=(boundsR x::x.2.2.2.2.1.map boundsS).foldl meet (0,200)
def zbs (x:(List Tint) × Leads):Span:=blackB x
def shade_blackOf_p (x:(List Tint) × Leads):Prop:=curveB x.1=true∧leadsB x.2=true
def openL (c:List Tint):List Leads->List Batch->(List Batch) × Int
 | [],r=>(r,0)
 | l::s,r=>cond (decide ((blackB (c,l)).2<(blackB (c,l)).1)) ([],6) (openL c s (r++[(l,blackB (c,l))]))
def zax (x:(List Tint) × (List Leads) × Int × Bool):(List Batch) × Int:=cond (!curveB x.1) ([],1) (cond (decide (x.2.2.1<(x.2.1.length:Int))) ([],3) (cond (!x.2.2.2||x.2.1.any fun l=>!leadsB l) ([],2) (openL x.1 x.2.1 [])))
def shade_open_p (x:(List Tint) × (List Leads) × Int × Bool):Prop:=x.2.2.1<=100
def blackV (c:List Tint) (l:Leads):Span × Int:=cond (!curveB c) ((0,0),1) (cond (!leadsB l) ((0,0),2) (cond (decide ((blackB (c,l)).2<(blackB (c,l)).1)) ((0,0),6) (blackB (c,l),0)))
def zak (x:(List Tint) × Leads):Span × Int:=blackV x.1 x.2
def zcP (_:(List Tint) × Leads):Prop:=True
def zbh (x:Span × Span):Span:=meet x.1 x.2
def zdl (_:Span × Span):Prop:=True
def shade_Has_1 (x:Shade):Bool:=!shadeB x
def shade_Has_1u_p (_:Shade):Prop:=True
def hasS (b:Span) (l:Leads) (s:Shade):Bool:=(meet b s.1==b)&&((meet l.2.2.2.2.1 s.2.1==l.2.2.2.2.1)&&(meet l.2.2.2.2.2.1 s.2.2==l.2.2.2.2.2.1))
def hasL (p:Shade->Bool):List Shade->Int->List Int
 | [],_=>[]
 | s::r,i=>cond (p s) (i::hasL p r (i+1)) (hasL p r (i+1))
def hasV (c:List Tint) (s:List Shade) (l:Leads):(List Int) × Int:=cond (curveB c&&decide (8<(s.length:Int))) ([],3)
 (cond (!curveB c) ([],1) (cond (s.any (fun x=>!shadeB x)||!leadsB l) ([],2) (cond (decide ((blackB (c,l)).2<(blackB (c,l)).1)) ([],6) (hasL (hasS (blackB (c,l)) l) s 0,0))))
def zan (x:(List Tint) × (List Shade) × Leads):(List Int) × Int:=hasV x.1 x.2.1 x.2.2
def shade_Has_p (x:(List Tint) × (List Shade) × Leads):Prop:=x.2.1.length<=1000
abbrev badF:Fun Shade Bool:=⟨shade_Has_1u_p,shade_Has_1⟩
abbrev openH (x:(List Tint) × (List Shade) × Leads):(List Batch) × Int:=zax (x.1,(List.replicate 1 ((0,0),(0,0),0,[],(0,0),(0,0),0)).set 0 x.2.2,1,!zam (x.2.1,badF))
end Go.Tt
