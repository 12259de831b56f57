/-
  Shade: what each function gives. No program in sight.
-/
import Derived.Test.YtdhdklojcppfcaaTtOSpec
set_option linter.all false
set_option maxRecDepth 100000
set_option linter.unusedVariables false
open Int renaming fdiv->ydE
namespace Go.Tt
open Go Go.Sx
abbrev Tint:=Int × Int
abbrev Stroke:=Span × Span
abbrev Leads:=Span × Span × Int × (List Stroke) × Span × Span × Int
abbrev Shade:=Span × Span × Span
abbrev Mix:=(List Tint) × Int × Int
abbrev gram:Int:=1073741824
def tintB (c:List Tint) (i:Nat):Bool:=inB (c.getD i (0,0)).2 0 200&&(i==0||(decide ((c.getD (i - 1) (0,0)).1<(c.getD i (0,0)).1)&&decide ((c.getD (i - 1) (0,0)).2<=(c.getD i (0,0)).2)))
def curveB (c:List Tint):Bool:=((inB (c.length:Int) 2 8&&(c.getD 0 (0,0)).1==0)&&(c.getD (c.length - 1) (0,0)).1==1000)&&(List.range c.length).all (tintB c)
def strokeB (s:Stroke):Bool:=spanB s.1 0 1000&&spanB s.2 1 4000
def leadsB (l:Leads):Bool:=(((spanB l.1 1 gram&&spanB l.2.1 0 gram)&&inB l.2.2.1 0 200)&&((spanB l.2.2.2.2.1 0 10000&&spanB l.2.2.2.2.2.1 0 10000)&&inB l.2.2.2.2.2.2 0 topN))&&decide ((l.2.2.2.1.length:Int)<=6)&&l.2.2.2.1.all strokeB
structure MixOk (m:Mix):Prop where
 curve:curveB m.1=true
 g:1<=m.2.1/\m.2.1<=gram
 c:0<=m.2.2/\m.2.2<=gram
def srch (f:Int->Bool):Nat->Int->Int->Int
 | 0,i,_=>i
 | n+1,i,j=>cond (decide (i<j)) (cond (f (ydE (i+j) 2)) (srch f n i (ydE (i+j) 2)) (srch f n (ydE (i+j) 2+1) j)) i
def reachB (m:Mix) (i:Int):Bool:=decide (1000*m.2.1<=(m.1.getD (i+1).toNat (0,0)).1*(m.2.1+m.2.2))
def zgE (x:Mix × Int):Bool:=reachB x.1 x.2
def zfF (x:Mix × Int):Prop:=MixOk x.1/\0<=x.2/\x.2+1<(x.1.1.length:Int)
abbrev reachF (m:Mix):Fun Int Bool:=⟨fun i=>zfF (m,i),fun i=>zgE (m,i)⟩
def zdy (x:Int × Fun Int Bool):Int:=srch x.2.val x.1.toNat 0 x.1
def zdp (x:Int × Fun Int Bool):Prop:=(0<=x.1/\x.1<=1152921504606846976)/\∀ i,0<=i->i<x.1->x.2.pre i
abbrev cutS (m:Mix):Int:=zdy ((m.1.length:Int) - 2,reachF m)
abbrev aS (m:Mix):Tint:=m.1.getD (cutS m).toNat (0,0)
abbrev bS (m:Mix):Tint:=m.1.getD (cutS m+1).toNat (0,0)
end Go.Tt
