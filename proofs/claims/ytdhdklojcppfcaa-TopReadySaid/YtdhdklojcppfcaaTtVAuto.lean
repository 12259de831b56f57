/-
  Coat, and TopReady: what each function gives. No program in sight.
-/
import Derived.Test.YtdhdklojcppfcaaTtMix
import Derived.Test.YtdhdklojcppfcaaTtOP8
import Derived.Test.YtdhdklojcppfcaaProg
set_option linter.all false
set_option maxRecDepth 100000
open Int renaming fdiv->ydy,toNat->yby
open List renaming range->yaf,replicate->yaa
open Go.Proofs.Try
namespace Go.Tt
open Go Go.Sx
abbrev bigV:Nat:=140737488355328
abbrev Coats:=(List Span) × Int
abbrev Paint:=Int × Int × List Coats
abbrev Hung:=Int × Int × Int × Int
abbrev Shop:=Paint × (List Hung) × Int
abbrev DipS:=Int × Int
abbrev zHu:Hung:=(0,0,0,0)
abbrev zCo:Coats:=([],0)
def dryOk (s:Span):Bool:=spanB s 0 1000
def coatB (b:Coats):Bool:=(!((b.1.length:Int)==0)&&inB b.2 0 1000)&&b.1.all dryOk
def coatsN (l:List Coats):Int:=(l.map fun b=>(b.1.length:Int)).sum
def paintB (p:Paint):Bool:=((inB p.1 1 24&&(inB p.2.1 1 4&&inB (p.2.2.length:Int) 1 4))&&p.2.2.all coatB)&&decide (coatsN p.2.2<=9)
def PaintP (p:Paint):Prop:=p.2.2.length<=bigV/\∀ b∈p.2.2,b.1.length<=bigV
abbrev hadN (s:Shop) (i:Nat):Hung:=s.2.1.getD i zHu
abbrev dryN (p:Paint) (i:Nat):List Span:=(p.2.2.getD i zCo).1
def manyN (s:Shop):Int:=sumN 4 fun i=>(hadN s i).1
structure ShopOk (s:Shop):Prop where
 paint:paintB s.1=true
 h4:s.2.1.length=4
 many:∀ i,i<4->0<=(hadN s i).1/\(hadN s i).1<=((dryN s.1 i).length:Int)
 time:∀ i,i<4->(0<=(hadN s i).2.1/\(hadN s i).2.1<=(hadN s i).2.2.1)/\((hadN s i).2.2.1<=(hadN s i).2.2.2/\(hadN s i).2.2.2<=1000000)
 free:0<=s.2.2/\s.2.2<=1000000
structure ShopR (s:Shop):Prop where
 ok:ShopOk s
 time:∀ i,i<4->(hadN s i).2.2.2<=2000*manyN s
 free:s.2.2<=2000*manyN s
def mayV (s:Shop) (b:Int):Int:=cond (!inB b 0 ((s.1.2.2.length:Int) - 1)) 2 (cond (decide (((dryN s.1 b.toNat).length:Int)<=(hadN s b.toNat).1)) 9 0)
def lateB (s:Shop) (x:DipS):Bool:=decide (0<(hadN s x.1.toNat).1)&&decide ((hadN s x.1.toNat).2.2.1+(s.1.2.2.getD x.1.toNat zCo).2<x.2)
def hangB (s:Shop) (but hour:Int) (i:Nat):Bool:=(!((i:Int)==but)&&decide (0<(hadN s i).1))&&decide (hour<(hadN s i).2.2.2)
def hangV (s:Shop) (but hour:Int) (n:Nat):List Int:=(yaf n).flatMap fun i=>cond (hangB s but hour i) [(hadN s i).2.2.2] []
def insR (lt:Int->Int->Bool) (x:Int):List Int->List Int
 | []=>[x]
 | y::r=>cond (lt x y) (y::insR lt x r) (x::y::r)
def sortV (lt:Int->Int->Bool) (l:List Int):List Int:=(l.foldl (fun r x=>insR lt x r) []).reverse
def sortI (l:List Int):List Int:=sortV (fun a b=>decide (a<b)) l
def lateV (a:Int) (l:List Int):Int:=l.foldl max a
abbrev firstV (s:Shop) (b:Int):Int:=cond (decide (0<(hadN s b.toNat).1)) (max s.2.2 (hadN s b.toNat).2.2.2) s.2.2
abbrev leaveV (s:Shop) (b:Int):List Int:=sortI (hangV s b (firstV s b+s.1.1) s.1.2.2.length)
def timeV (s:Shop) (b:Int):Int:=cond (decide (s.1.2.1<=((leaveV s b).length:Int))) (max (firstV s b) ((leaveV s b).getD (((leaveV s b).length:Int) - s.1.2.1).toNat 0 - s.1.1)) (firstV s b)
abbrev dryD (s:Shop) (b:Int):Span:=(dryN s.1 b.toNat).getD (hadN s b.toNat).1.toNat (0,0)
def dipV (s:Shop) (x:DipS):Shop:=(s.1,s.2.1.set x.1.toNat ((hadN s x.1.toNat).1+1,x.2+s.1.1,x.2+s.1.1+(dryD s x.1).1,x.2+s.1.1+(dryD s x.1).2),x.2+s.1.1)
def nextV (s:Shop) (b:Int):Int × Int × Shop:=cond (!(mayV s b==0)) (0,mayV s b,s) (cond (lateB s (b,timeV s b)) (0,11,s) (timeV s b,0,dipV s (b,timeV s b)))
def doneV (s:Shop):Int:=(yaf 4).foldl (fun h i=>max h (hadN s i).2.2.2) 0
def shop0 (p:Paint):Shop:=(p,yaa 4 zHu,0)
def timesGo:Shop->List Int->List Int->Int->(List Int) × Int × Int × Shop
 | s,[],r,i=>(r,i,0,s)
 | s,b::l,r,i=>cond (!((nextV s b).2.1==0)) ([],i,(nextV s b).2.1,s) (timesGo (nextV s b).2.2 l (r++[(nextV s b).1]) (i+1))
def timesV (p:Paint) (l:List Int):(List Int) × Int × Int:=cond (!paintB p) ([],0,1)
 (cond (!((timesGo (shop0 p) l [] 0).2.2.1==0)) ((timesGo (shop0 p) l [] 0).1,(timesGo (shop0 p) l [] 0).2.1,(timesGo (shop0 p) l [] 0).2.2.1)
  (cond (decide ((l.length:Int)<coatsN p.2.2)) ([],(l.length:Int),4) ((timesGo (shop0 p) l [] 0).1,(l.length:Int),0)))
def wetGo (hour:Int) (t:List Int) (l:List Int) (s:Shop):Nat->Shop
 | 0=>s
 | n+1=>cond (decide (t.getD n 0+s.1.1<=hour)) (dipV (wetGo hour t l s n) (l.getD n 0,t.getD n 0)) (wetGo hour t l s n)
def wetN (s:Shop) (hour:Int) (f:Hung->Int) (n:Nat):Int:=((yaf n).map fun i=>cond (decide (0<(hadN s i).1)&&decide (hour<f (hadN s i))) 1 0).sum
def wetV (p:Paint) (l:List Int) (hour:Int):Span × Int:=cond (!((timesV p l).2.2==0)) ((0,0),(timesV p l).2.2) (cond (!inB hour 0 1048576) ((0,0),2)
 ((wetN (wetGo hour (timesV p l).1 l (shop0 p) l.length) hour (fun h=>h.2.2.1) 4,wetN (wetGo hour (timesV p l).1 l (shop0 p) l.length) hour (fun h=>h.2.2.2) 4),0))
abbrev BestS:=(List Int) × Int
def bestGo (many:Int) (p:Paint):Nat->Shop->List Int->BestS->BestS
 | n,s,l,o=>cond ((l.length:Int)==many) (cond ((o.1.length:Int)==0||decide (doneV s<o.2)) (l,doneV s) o)
  (match n with
  | 0=>o
  | n+1=>(yaf p.2.2.length).foldl (fun o i=>cond (!((nextV s (i:Nat)).2.1==0)||(!((o.1.length:Int)==0)&&decide (o.2<=doneV (nextV s (i:Nat)).2.2))) o (bestGo many p n (nextV s (i:Nat)).2.2 (l++[((i:Nat):Int)]) o)) o)
def bestV (p:Paint):(List Int) × Int × Int:=cond (!paintB p) ([],0,1)
 (cond (((bestGo (coatsN p.2.2) p (coatsN p.2.2).toNat (shop0 p) [] ([],0)).1.length:Int)==0) ([],0,4)
  ((bestGo (coatsN p.2.2) p (coatsN p.2.2).toNat (shop0 p) [] ([],0)).1,(bestGo (coatsN p.2.2) p (coatsN p.2.2).toNat (shop0 p) [] ([],0)).2,0))
def zbB (x:Int × Int × Int):Bool:=inB x.1 x.2.1 x.2.2
def zdi (_:Int × Int × Int):Prop:=True
def zbU (x:Paint):Bool:=paintB x
def zeZ (x:Paint):Prop:=PaintP x
def zcF (x:(List Int) × List Int):Bool:=x.1==x.2
def zfy (x:(List Int) × List Int):Prop:=x.1.length<=big
def zao (x:Int × Int × Int):Bool:=inB x.1 x.2.1 x.2.2
def zbK (_:Int × Int × Int):Prop:=True
def zel (x:Int):Bool:=inB x 0 1048576
def zfM (_:Int):Prop:=True
def zaY (x:Paint):Int:=coatsN x.2.2
def zcR (x:Paint):Prop:=x.2.2.length<=4/\∀ b∈x.2.2,b.1.length<=bigV
def zbn (x:Span):Bool:=!dryOk x
def zbd (_:Span):Prop:=True
def zaw (x:(List Span) × Fun Span Bool):Int:=ixF x.2.val x.1 0
def zbk (x:(List Span) × Fun Span Bool):Prop:=x.1.length<=bigV/\∀ a∈x.1,x.2.pre a
def zaH (x:(List Span) × Fun Span Bool):Bool:=x.1.any x.2.val
def zbe (x:(List Span) × Fun Span Bool):Prop:=x.1.length<=bigV/\∀ a∈x.1,x.2.pre a
def zcn (x:Coats × Fun Span Bool):Bool:=((x.1.1.length:Int)==0||!inB x.1.2 0 1000)||x.1.1.any x.2.val
def zcg (x:Coats × Fun Span Bool):Prop:=x.1.1.length<=bigV/\∀ a∈x.1.1,x.2.pre a
def zas (x:(List Coats) × Fun Coats Bool):Int:=ixF x.2.val x.1 0
def zbh (x:(List Coats) × Fun Coats Bool):Prop:=x.1.length<=bigV/\∀ a∈x.1,x.2.pre a
def zam (x:(List Coats) × Fun Coats Bool):Bool:=x.1.any x.2.val
def zaX (x:(List Coats) × Fun Coats Bool):Prop:=x.1.length<=bigV/\∀ a∈x.1,x.2.pre a
def zct (x:Paint):Bool:=paintB x
def zdN (x:Paint):Prop:=PaintP x
def zbL (x:Shop × Int):Int:=mayV x.1 x.2
def zeB (x:Shop × Int):Prop:=ShopOk x.1
def zco (x:Shop × DipS):Bool:=lateB x.1 x.2
def zdJ (x:Shop × DipS):Prop:=ShopOk x.1/\0<=x.2.1/\x.2.1<(x.1.1.2.2.length:Int)
def zax (x:Shop × Int × Int):List Int:=hangV x.1 x.2.1 x.2.2 x.1.1.2.2.length
def zbs (x:Shop × Int × Int):Prop:=ShopOk x.1
def zap (x:Shop × Int × Int):Sx.Seq Int:=⟨zbs x,zax x⟩
def zcq (_:Shop × Int × Int):Prop:=True
def zal (x:Int × List Int):Int:=lateV x.1 x.2
def zbF (x:Int × List Int):Prop:=x.2.length<=big
def zcA (_:Int):Bool:=false
def zdx (_:Int):Prop:=True
def zcb (x:Int × Int):Bool:=decide (x.1<x.2)
def zcS (_:Int × Int):Prop:=True
def zau (x:Sx.Seq Int):List Int:=x.2
def zch (x:Sx.Seq Int):Prop:=x.1/\x.2.length<=big
def lenTab:List Int:=[0,1,2,2,3,3,3,3,4,4,4,4,4,4,4,4,5,5,5,5,5,5,5,5,5,5,5,5,5,5,5,5,6,6,6,6,6,6,6,6,6,6,6,6,6,6,6,6,6,6,6,6,6,6,6,6,6,6,6,6,6,6,6,6,7,7,7,7,7,7,7,7,7,7,7,7,7,7,7,7,7,7,7,7,7,7,7,7,7,7,7,7,7,7,7,7,7,7,7,7,7,7,7,7,7,7,7,7,7,7,7,7,7,7,7,7,7,7,7,7,7,7,7,7,7,7,7,7,8,8,8,8,8,8,8,8,8,8,8,8,8,8,8,8,8,8,8,8,8,8,8,8,8,8,8,8,8,8,8,8,8,8,8,8,8,8,8,8,8,8,8,8,8,8,8,8,8,8,8,8,8,8,8,8,8,8,8,8,8,8,8,8,8,8,8,8,8,8,8,8,8,8,8,8,8,8,8,8,8,8,8,8,8,8,8,8,8,8,8,8,8,8,8,8,8,8,8,8,8,8,8,8,8,8,8,8,8,8,8,8,8,8,8,8,8,8,8,8,8,8,8,8,8,8,8,8]
def lenV (x:Int):Int:=lenTab.getD x.toNat 0
def zaL (x:Int):Int:=lenV x
def zdD (x:Int):Prop:=0<=x/\x<=4
def zbD (_:Int):Int:=0
def zdE (_:Int):Prop:=False
def zcz (x:Int):Int:=lenV x
def zcy (x:Int):Prop:=0<=x/\x<=4
def zaM (x:Shop × Int):Int:=timeV x.1 x.2
def zeo (x:Shop × Int):Prop:=ShopOk x.1/\0<=x.2/\x.2<(x.1.1.2.2.length:Int)
def zde (x:Shop × DipS):Shop:=dipV x.1 x.2
def zdw (x:Shop × DipS):Prop:=ShopOk x.1/\(0<=x.2.1/\x.2.1<(x.1.1.2.2.length:Int))/\(hadN x.1 x.2.1.toNat).1<((dryN x.1.1 x.2.1.toNat).length:Int)/\0<=x.2.2/\x.2.2<=1000000
def zah (x:Shop × Int):Int × Int × Shop:=nextV x.1 x.2
def zcZ (x:Shop × Int):Prop:=ShopOk x.1
def zbz (x:Shop):Int:=doneV x
def zd (x:Shop):Prop:=ShopOk x
def zaV (x:Paint × List Int):(List Int) × Int × Int:=timesV x.1 x.2
def zeC (x:Paint × List Int):Prop:=PaintP x.1/\x.2.length<=big
def zbT (x:Paint × (List Int) × Int):Span × Int:=wetV x.1 x.2.1 x.2.2
def zit (x:Paint × (List Int) × Int):Prop:=PaintP x.1/\x.2.1.length<=big
abbrev BestIn:=Shop × (List Int) × Int × (List Int) × Int × Paint
abbrev moreL (l:List Int) (b:Int):List Int:=(l++(yaa (yby ((l.length:Int)+1)) (0:Int)).drop (yby (l.length:Int))).set (yby (l.length:Int)) b
def zbj (x:BestIn):BestS:=bestGo x.2.2.1 x.2.2.2.2.2 (x.2.2.1 - (x.2.1.length:Int)).toNat x.1 x.2.1 (x.2.2.2.1,x.2.2.2.2.1)
def zdO (x:BestIn):Prop:=ShopR x.1/\x.1.1=x.2.2.2.2.2/\(x.2.2.1=coatsN x.2.2.2.2.2.2.2/\(x.2.1.length:Int)=manyN x.1)
def m114 (x:BestIn):Nat:=(x.2.2.1 - (x.2.1.length:Int)).toNat
def zhN (x y:BestIn):Prop:=zdO y/\m114 y<m114 x
def zca (x:Paint):(List Int) × Int × Int:=bestV x
def zfm (x:Paint):Prop:=PaintP x
def zcD (_:Unit):Bool:=true
def zcj (_:Unit):Prop:=True
abbrev ReadyIn:=Paint × Int
def zbt (_:ReadyIn):Bool:=true
def zeY (x:ReadyIn):Prop:=PaintP x.1/\0<=x.2/\x.2<=65535
abbrev btK (x:ReadyIn):(List Int) × Int × Int:=zca x.1
abbrev tmK' (x:ReadyIn):(List Int) × Int × Int:=zaV (x.1,(btK x).1)
end Go.Tt
/- Written by a program of mine (wip/tools/gen.py): contexts and conditions of functions. -/
set_option maxHeartbeats 4000000
namespace Go.Tt
open Go Go.Sx
def TV:Tabs:={
 tyL:=[(3,I),(4,.bo),(5,(.i .u8)),(31,(.st (.p I I))),(36,I),(45,(.i .u32)),(56,(.sl I)),(58,(.sl (.st (.p I I)))),(80,(.i .u16)),(91,(.sl (.st (.p I (.p I (.p I I)))))),(92,(.sl (.st (.p I (.p (.st (.p I I)) (.st (.p I I))))))),(94,(.st (.p (.sl (.st (.p I (.p (.st (.p I I)) (.st (.p I I)))))) (.sl (.st (.p I (.p I (.p I I)))))))),(98,(.st (.p I (.p (.st (.p I I)) (.st (.p I I)))))),(100,(.st (.p I (.p I (.p I I))))),(107,(.sl (.st (.p (.sl (.st (.p I I))) I)))),(109,(.st (.p I (.p I (.sl (.st (.p (.sl (.st (.p I I))) I))))))),(112,(.st (.p (.sl (.st (.p I I))) I))),(135,(.f1 I .bo)),(204,(.ref (.st (.p (.st (.p I (.p I (.sl (.st (.p (.sl (.st (.p I I))) I)))))) (.p (.arr 4 (.st (.p I (.p I (.p I I))))) I))))),(206,(.st (.p I (.p I (.p I I))))),(207,(.arr 4 (.st (.p I (.p I (.p I I)))))),(209,(.st (.p (.st (.p I (.p I (.sl (.st (.p (.sl (.st (.p I I))) I)))))) (.p (.arr 4 (.st (.p I (.p I (.p I I))))) I)))),(215,(.st (.p I I))),(222,(.i .u64)),(251,(.f1 (.st (.p I I)) .bo)),(253,(.f1 (.st (.p (.sl (.st (.p I I))) I)) .bo)),(257,(.ref (.st (.p I (.p I (.p I I)))))),(294,(.sq false I)),(295,(.sq false I)),(305,(.i .u64)),(311,I)],
 elL:=[(56,3),(58,31),(91,100),(92,98),(107,112)],
 oneL:=[56,58,91,92,107,203,251],
 mtyL:=[(122,(3,221)),(123,(3,221)),(147,(153,3)),(148,(153,3)),(249,(3,4)),(282,(4,281))] }
def k110:Con:={ args:=[I,I,I],res:=[.bo],pre:=zdi,val:=zbB }
def k42:Con:={ args:=[(.st (.p I (.p I (.sl (.st (.p (.sl (.st (.p I I))) I))))))],res:=[.bo],pre:=zeZ,val:=zbU }
def k111:Con:={ args:=[(.sl I),(.sl I)],res:=[.bo],pre:=zfy,val:=zcF }
def k113:Con:={ args:=[(.st (.p I (.p I (.sl (.st (.p (.sl (.st (.p I I))) I))))))],res:=[I],pre:=zcR,val:=zaY }
def k167:Con:={ args:=[(.st (.p I I))],res:=[.bo],pre:=zbd,val:=zbn }
def k197:Con:={ args:=[(.sl (.st (.p I I))),(.f1 (.st (.p I I)) .bo)],res:=[I],pre:=zbk,val:=zaw }
def k170:Con:={ args:=[(.sl (.st (.p I I))),(.f1 (.st (.p I I)) .bo)],res:=[.bo],pre:=zbe,val:=zaH }
def k169:Con:={ args:=[I,I,I],res:=[.bo],pre:=zbK,val:=zao }
def k168:Con:={ args:=[(.st (.p (.sl (.st (.p I I))) I)),(.ref (.f1 (.st (.p I I)) .bo))],res:=[.bo],pre:=zcg,val:=zcn }
def k198:Con:={ args:=[(.sl (.st (.p (.sl (.st (.p I I))) I))),(.f1 (.st (.p (.sl (.st (.p I I))) I)) .bo)],res:=[I],pre:=zbh,val:=zas }
def k171:Con:={ args:=[(.sl (.st (.p (.sl (.st (.p I I))) I))),(.f1 (.st (.p (.sl (.st (.p I I))) I)) .bo)],res:=[.bo],pre:=zaX,val:=zam }
def k112:Con:={ args:=[(.st (.p I (.p I (.sl (.st (.p (.sl (.st (.p I I))) I))))))],res:=[.bo],pre:=zdN,val:=zct }
def k119:Con:={ args:=[I],res:=[.bo],pre:=zfM,val:=zel }
def k172:Con:={ args:=[(.ref (.st (.p (.st (.p I (.p I (.sl (.st (.p (.sl (.st (.p I I))) I)))))) (.p (.arr 4 (.st (.p I (.p I (.p I I))))) I)))),I],res:=[I],pre:=zeB,val:=zbL }
def k174:Con:={ args:=[(.ref (.st (.p (.st (.p I (.p I (.sl (.st (.p (.sl (.st (.p I I))) I)))))) (.p (.arr 4 (.st (.p I (.p I (.p I I))))) I)))),(.st (.p I I))],res:=[.bo],pre:=zdJ,val:=zco }
def k120:LCon:={ args:=[.box (.st (.p (.st (.p I (.p I (.sl (.st (.p (.sl (.st (.p I I))) I)))))) (.p (.arr 4 (.st (.p I (.p I (.p I I))))) I))),.d (.st (.p I I))],ncap:=0,res:=[],row:=none,minv:=fun _=>⟨.u,.u,fun _ _=>True⟩,pre:=zdw,val:=zde }
def k213:ICon:={ args:=[(.ref (.ref (.st (.p (.st (.p I (.p I (.sl (.st (.p (.sl (.st (.p I I))) I)))))) (.p (.arr 4 (.st (.p I (.p I (.p I I))))) I))))),(.ref I),(.ref I)],two:=false,elt:=I,pre:=zbs,seq:=zax }
def k201:Con:={ args:=[(.ref (.st (.p (.st (.p I (.p I (.sl (.st (.p (.sl (.st (.p I I))) I)))))) (.p (.arr 4 (.st (.p I (.p I (.p I I))))) I)))),I,I],res:=[(.sq false I)],pre:=zcq,val:=zap }
def k199:Con:={ args:=[I,(.sl I)],res:=[I],pre:=zbF,val:=zal }
def k234:Con:={ args:=[I],res:=[.bo],pre:=zdx,val:=zcA }
def k224:Con:={ args:=[I,I],res:=[.bo],pre:=zcS,val:=zcb }
def k211:NCon:={ args:=[(.sq false I)],res:=[(.sl I)],pos:=0,el:=3,box:=false,pre:=zch,val:=zau }
def k227:Con:={ args:=[(.i .u32)],res:=[I],pre:=zdE,val:=zbD }
def k228:Con:={ args:=[(.i .u64)],res:=[I],pre:=zdD,val:=zaL }
def k217:Con:={ args:=[(.i .u64)],res:=[I],pre:=zcy,val:=zcz }
def k173:Con:={ args:=[(.ref (.st (.p (.st (.p I (.p I (.sl (.st (.p (.sl (.st (.p I I))) I)))))) (.p (.arr 4 (.st (.p I (.p I (.p I I))))) I)))),I],res:=[I],pre:=zeo,val:=zaM }
def k116:LCon:={ args:=[.box (.st (.p (.st (.p I (.p I (.sl (.st (.p (.sl (.st (.p I I))) I)))))) (.p (.arr 4 (.st (.p I (.p I (.p I I))))) I))),.d I],ncap:=0,res:=[I,I],row:=none,minv:=fun _=>⟨.u,.u,fun _ _=>True⟩,pre:=zcZ,val:=zah }
def k115:Con:={ args:=[(.ref (.st (.p (.st (.p I (.p I (.sl (.st (.p (.sl (.st (.p I I))) I)))))) (.p (.arr 4 (.st (.p I (.p I (.p I I))))) I))))],res:=[I],pre:=zd,val:=zbz }
def k45:Con:={ args:=[(.st (.p I (.p I (.sl (.st (.p (.sl (.st (.p I I))) I)))))),(.sl I)],res:=[(.sl I),I,I],pre:=zeC,val:=zaV }
def k47:Con:={ args:=[(.st (.p I (.p I (.sl (.st (.p (.sl (.st (.p I I))) I)))))),(.sl I),I],res:=[(.st (.p I I)),I],pre:=zit,val:=zbT }
def k114:LCon:={ args:=[.d (.ref (.st (.p (.st (.p I (.p I (.sl (.st (.p (.sl (.st (.p I I))) I)))))) (.p (.arr 4 (.st (.p I (.p I (.p I I))))) I)))),.d (.sl I),.d (.ref I),.box (.sz I),.box I,.d (.ref (.st (.p I (.p I (.sl (.st (.p (.sl (.st (.p I I))) I))))))),.self],ncap:=5,res:=[],row:=none,minv:=fun _=>⟨.u,.u,fun _ _=>True⟩,pre:=zdO,val:=zbj }
def k44:Con:={ args:=[(.st (.p I (.p I (.sl (.st (.p (.sl (.st (.p I I))) I))))))],res:=[(.sl I),I,I],pre:=zfm,val:=zca }
def k43:Con:={ args:=[],res:=[.bo],pre:=zcj,val:=zcD }
def k8:Con:={ args:=[(.st (.p I (.p I (.sl (.st (.p (.sl (.st (.p I I))) I)))))),(.i .u16)],res:=[.bo],pre:=zeY,val:=zbt }
def cx110:Cx:=mkCx TV 15 [] [] [] [] [] [] [] none
abbrev yZS:=(Prod (Prod Int (Prod Int (List (Prod (List (Prod Int Int)) Int)))) (Prod (List (Prod Int (Prod Int (Prod Int Int)))) Int))
abbrev yZR:=(Prod Int Int)
abbrev yZQ:=((Int × Int × List ((List (Int × Int)) × Int)) × (List (Int × Int × Int × Int)) × Int)
abbrev yZP:=((List (Int × Int)) × Int)
abbrev yZO:=(Prod Int (Prod Int (List (Prod (List yZR) Int))))
abbrev yZN:=(Prod (List (Prod Int (Prod yZR yZR))) (List (Prod Int (Prod Int yZR))))
abbrev yZM:=(Prod Int (Prod Int yZR))
abbrev yZL:=(Prod (List Int) yZR)
abbrev yZK:=(Prod Int (Prod Int (Prod Int (Prod Bool (Prod Bool (List Int))))))
abbrev yZJ:=(List (Prod Int (Prod yZR yZR)))
abbrev yZI:=(Int × Int × List yZP)
abbrev yZH:=(Prod Int (List Int))
abbrev yZG:=(Prod (List yZR) Int)
abbrev yZF:=(Prod (List Int) Int)
abbrev yZE:=(Prod Int (Prod Int yZS))
abbrev yZD:=(Prod yZR Int)
def V110 (x:Int × Int × Int):Prop:=(((decide ((x.2.1:Int)<=x.1)&&decide ((x.1:Int)<=x.2.2)):Bool)=(zbB x))
theorem e110 (x:Ds k110.args):vcFun cx110 f110 k110 x=V110 x:=by kernel_rfl
def cx42:Cx:=mkCx TV 91 [(110,k110)] [] [] [] [] [(5,⟨[(3,false),(4,false)],[],[],[]⟩),(11,⟨[(6,false)],[],[5],[]⟩)] [] none
def V42 (x:Int × Int × List yZP):Prop:=((zdi (x.1,1,24))/\((((!(zbB (x.1,1,24)))=false)->(zdi (x.2.1,1,4)))/\(((((!(zbB (x.1,1,24)))||(!(zbB (x.2.1,1,4))))=false)->(zdi ((x.2.2.length:Int),1,4)))/\((((((!(zbB (x.1,1,24)))||(!(zbB (x.2.1,1,4))))||(!(zbB ((x.2.2.length:Int),1,4))))=true)->((false:Bool)=(zbU x)))/\(((((!(zbB (x.1,1,24)))||(!(zbB (x.2.1,1,4))))||(!(zbB ((x.2.2.length:Int),1,4))))=false)->Z.LoopP (X:=yZR) ((0,0)) (fun s0 K0=>(((decide ((s0.2:Int)<(x.2.2.length:Int))=true)->(((0:Int)<=s0.2/\(s0.2:Int)<(x.2.2.length:Int))/\(((((((x.2.2.getD (yby s0.2) ([],0)).1).length:Int)==0)=false)->(zdi ((x.2.2.getD (yby s0.2) ([],0)).2,0,1000)))/\((((((((x.2.2.getD (yby s0.2) ([],0)).1).length:Int)==0)||(!(zbB ((x.2.2.getD (yby s0.2) ([],0)).2,0,1000))))=true)->((false:Bool)=(zbU x)))/\(((((((x.2.2.getD (yby s0.2) ([],0)).1).length:Int)==0)||(!(zbB ((x.2.2.getD (yby s0.2) ([],0)).2,0,1000))))=false)->Z.LoopP (X:=Int) (0) (fun s1 K1=>(((decide ((s1:Int)<(((x.2.2.getD (yby s0.2) ([],0)).1).length:Int))=true)->(((0:Int)<=s1/\(s1:Int)<(((x.2.2.getD (yby s0.2) ([],0)).1).length:Int))/\(((decide (((((x.2.2.getD (yby s0.2) ([],0)).1).getD (yby s1) (0,0)).1:Int)<0)=false)->((0:Int)<=s1/\(s1:Int)<(((x.2.2.getD (yby s0.2) ([],0)).1).length:Int)))/\(((decide (((((x.2.2.getD (yby s0.2) ([],0)).1).getD (yby s1) (0,0)).1:Int)<0)=false)->((0:Int)<=s1/\(s1:Int)<(((x.2.2.getD (yby s0.2) ([],0)).1).length:Int)))/\((((decide (((((x.2.2.getD (yby s0.2) ([],0)).1).getD (yby s1) (0,0)).1:Int)<0)||decide (((((x.2.2.getD (yby s0.2) ([],0)).1).getD (yby s1) (0,0)).2:Int)<(((x.2.2.getD (yby s0.2) ([],0)).1).getD (yby s1) (0,0)).1))=false)->((0:Int)<=s1/\(s1:Int)<(((x.2.2.getD (yby s0.2) ([],0)).1).length:Int)))/\(((((decide (((((x.2.2.getD (yby s0.2) ([],0)).1).getD (yby s1) (0,0)).1:Int)<0)||decide (((((x.2.2.getD (yby s0.2) ([],0)).1).getD (yby s1) (0,0)).2:Int)<(((x.2.2.getD (yby s0.2) ([],0)).1).getD (yby s1) (0,0)).1))||decide ((1000:Int)<(((x.2.2.getD (yby s0.2) ([],0)).1).getD (yby s1) (0,0)).2))=true)->((false:Bool)=(zbU x)))/\((((decide (((((x.2.2.getD (yby s0.2) ([],0)).1).getD (yby s1) (0,0)).1:Int)<0)||decide (((((x.2.2.getD (yby s0.2) ([],0)).1).getD (yby s1) (0,0)).2:Int)<(((x.2.2.getD (yby s0.2) ([],0)).1).getD (yby s1) (0,0)).1))||decide ((1000:Int)<(((x.2.2.getD (yby s0.2) ([],0)).1).getD (yby s1) (0,0)).2))=false)->(Z.in64 (s1+1)/\((((x.2.2.getD (yby s0.2) ([],0)):yZG)=(x.2.2.getD (yby s0.2) ([],0)))/\(K1 (s1+1)))))))))))/\((decide ((s1:Int)<(((x.2.2.getD (yby s0.2) ([],0)).1).length:Int))=false)->(Z.in64 (s0.1+(((x.2.2.getD (yby s0.2) ([],0)).1).length:Int))/\(Z.in64 (s0.2+1)/\(K0 ((s0.1+(((x.2.2.getD (yby s0.2) ([],0)).1).length:Int)),(s0.2+1)))))))))))))/\((decide ((s0.2:Int)<(x.2.2.length:Int))=false)->((decide ((s0.1:Int)<=9):Bool)=(zbU x))))))))))
theorem e42 (x:Ds k42.args):vcFun cx42 f42 k42 x=V42 x:=by kernel_rfl
def cx111:Cx:=mkCx TV 26 [] [] [] [] [] [(4,⟨[(5,false)],[],[],[]⟩)] [] none
def V111 (x:(List Int) × List Int):Prop:=((((!((x.1.length:Int)==(x.2.length:Int)))=true)->((false:Bool)=(zcF x)))/\(((!((x.1.length:Int)==(x.2.length:Int)))=false)->Z.LoopP (X:=Int) (0) (fun s0 K0=>(((decide ((s0:Int)<(x.1.length:Int))=true)->(((0:Int)<=s0/\(s0:Int)<(x.1.length:Int))/\(((0:Int)<=s0/\(s0:Int)<(x.2.length:Int))/\((((!((x.1.getD (yby s0) 0)==(x.2.getD (yby s0) 0)))=true)->((false:Bool)=(zcF x)))/\(((!((x.1.getD (yby s0) 0)==(x.2.getD (yby s0) 0)))=false)->(Z.in64 (s0+1)/\(K0 (s0+1))))))))/\((decide ((s0:Int)<(x.1.length:Int))=false)->((true:Bool)=(zcF x)))))))
theorem e111 (x:Ds k111.args):vcFun cx111 f111 k111 x=V111 x:=by kernel_rfl
def cx113:Cx:=mkCx TV 19 [] [] [] [] [] [(2,⟨[(2,false),(8,false)],[],[],[]⟩)] [] none
def V113 (x:Int × Int × List yZP):Prop:=Z.LoopP (X:=yZR) ((0,0)) (fun s0 K0=>(((decide ((s0.2:Int)<(x.2.2.length:Int))=true)->(((0:Int)<=s0.2/\(s0.2:Int)<(x.2.2.length:Int))/\(Z.in64 (s0.1+(((x.2.2.getD (yby s0.2) ([],0)).1).length:Int))/\(Z.in64 (s0.2+1)/\(K0 ((s0.1+(((x.2.2.getD (yby s0.2) ([],0)).1).length:Int)),(s0.2+1)))))))/\((decide ((s0.2:Int)<(x.2.2.length:Int))=false)->((s0.1:Int)=(zaY x)))))
theorem e113 (x:Ds k113.args):vcFun cx113 f113 k113 x=V113 x:=by kernel_rfl
def cx167:Cx:=mkCx TV 18 [] [] [] [] [] [] [] none
def V167 (x:Int × Int):Prop:=((((decide ((x.1:Int)<0)||decide ((x.2:Int)<x.1))||decide ((1000:Int)<x.2)):Bool)=(zbn x))
theorem e167 (x:Ds k167.args):vcFun cx167 f167 k167 x=V167 x:=by kernel_rfl
def cx197:Cx:=mkCx TV 19 [] [] [] [] [] [(2,⟨[(8,false)],[],[],[]⟩)] [] none
def V197 (x:(List (Int × Int)) × Go.Sx.Fun (Int × Int) Bool):Prop:=Z.LoopP (X:=Int) (0) (fun s0 K0=>(((decide ((s0:Int)<(x.1.length:Int))=true)->(((0:Int)<=s0/\(s0:Int)<(x.1.length:Int))/\((x.2.pre (x.1.getD (yby s0) (0,0)))/\((((x.2.val (x.1.getD (yby s0) (0,0)))=true)->((s0:Int)=(zaw x)))/\(((x.2.val (x.1.getD (yby s0) (0,0)))=false)->(Z.in64 (s0+1)/\(K0 (s0+1))))))))/\((decide ((s0:Int)<(x.1.length:Int))=false)->(((-1):Int)=(zaw x)))))
theorem e197 (x:Ds k197.args):vcFun cx197 f197 k197 x=V197 x:=by kernel_rfl
def cx170:Cx:=mkCx TV 9 [(197,k197)] [] [] [] [] [] [] none
def V170 (x:(List (Int × Int)) × Go.Sx.Fun (Int × Int) Bool):Prop:=((zbk (x.1,x.2))/\((decide ((0:Int)<=(zaw (x.1,x.2))):Bool)=(zaH x)))
theorem e170 (x:Ds k170.args):vcFun cx170 f170 k170 x=V170 x:=by kernel_rfl
def cx169:Cx:=mkCx TV 15 [] [] [] [] [] [] [] none
def V169 (x:Int × Int × Int):Prop:=(((decide ((x.2.1:Int)<=x.1)&&decide ((x.1:Int)<=x.2.2)):Bool)=(zao x))
theorem e169 (x:Ds k169.args):vcFun cx169 f169 k169 x=V169 x:=by kernel_rfl
def cx168:Cx:=mkCx TV 20 [(169,k169),(170,k170)] [] [] [] [] [] [] none
def V168 (x:yZP × Go.Sx.Fun (Int × Int) Bool):Prop:=(((((x.1.1.length:Int)==0)=false)->(zbK (x.1.2,0,1000)))/\((((((x.1.1.length:Int)==0)||(!(zao (x.1.2,0,1000))))=false)->(zbe (x.1.1,x.2)))/\((((((x.1.1.length:Int)==0)||(!(zao (x.1.2,0,1000))))||(zaH (x.1.1,x.2))):Bool)=(zcn x))))
theorem e168 (x:Ds k168.args):vcFun cx168 f168 k168 x=V168 x:=by kernel_rfl
def cx198:Cx:=mkCx TV 19 [] [] [] [] [] [(2,⟨[(8,false)],[],[],[]⟩)] [] none
def V198 (x:(List yZP) × Go.Sx.Fun yZP Bool):Prop:=Z.LoopP (X:=Int) (0) (fun s0 K0=>(((decide ((s0:Int)<(x.1.length:Int))=true)->(((0:Int)<=s0/\(s0:Int)<(x.1.length:Int))/\((x.2.pre (x.1.getD (yby s0) ([],0)))/\((((x.2.val (x.1.getD (yby s0) ([],0)))=true)->((s0:Int)=(zas x)))/\(((x.2.val (x.1.getD (yby s0) ([],0)))=false)->(Z.in64 (s0+1)/\(K0 (s0+1))))))))/\((decide ((s0:Int)<(x.1.length:Int))=false)->(((-1):Int)=(zas x)))))
theorem e198 (x:Ds k198.args):vcFun cx198 f198 k198 x=V198 x:=by kernel_rfl
def cx171:Cx:=mkCx TV 9 [(198,k198)] [] [] [] [] [] [] none
def V171 (x:(List yZP) × Go.Sx.Fun yZP Bool):Prop:=((zbh (x.1,x.2))/\((decide ((0:Int)<=(zas (x.1,x.2))):Bool)=(zam x)))
theorem e171 (x:Ds k171.args):vcFun cx171 f171 k171 x=V171 x:=by kernel_rfl
def cx112:Cx:=mkCx TV 34 [(167,k167),(168,k168),(169,k169),(171,k171),(113,k113)] [] [] [] [] [] [] none
def V112 (x:Int × Int × List yZP):Prop:=((zbK (x.1,1,24))/\((((zao (x.1,1,24))=true)->(zbK (x.2.1,1,4)))/\(((((zao (x.1,1,24))&&(zao (x.2.1,1,4)))=true)->(zbK ((x.2.2.length:Int),1,4)))/\((((((zao (x.1,1,24))&&(zao (x.2.1,1,4)))&&(zao ((x.2.2.length:Int),1,4)))=true)->(zaX (x.2.2,(⟨(fun x0=>(zcg (x0,(⟨zbd,zbn⟩:Go.Sx.Fun (yZR) (Bool))))),(fun x1=>(zcn (x1,(⟨zbd,zbn⟩:Go.Sx.Fun (yZR) (Bool)))))⟩:Go.Sx.Fun (yZG) (Bool)))))/\(((((((zao (x.1,1,24))&&(zao (x.2.1,1,4)))&&(zao ((x.2.2.length:Int),1,4)))&&(!(zam (x.2.2,(⟨(fun x2=>(zcg (x2,(⟨zbd,zbn⟩:Go.Sx.Fun (yZR) (Bool))))),(fun x3=>(zcn (x3,(⟨zbd,zbn⟩:Go.Sx.Fun (yZR) (Bool)))))⟩:Go.Sx.Fun (yZG) (Bool))))))=true)->(zcR x))/\(((((((zao (x.1,1,24))&&(zao (x.2.1,1,4)))&&(zao ((x.2.2.length:Int),1,4)))&&(!(zam (x.2.2,(⟨(fun x4=>(zcg (x4,(⟨zbd,zbn⟩:Go.Sx.Fun (yZR) (Bool))))),(fun x5=>(zcn (x5,(⟨zbd,zbn⟩:Go.Sx.Fun (yZR) (Bool)))))⟩:Go.Sx.Fun (yZG) (Bool))))))&&decide (((zaY x):Int)<=9)):Bool)=(zct x)))))))
theorem e112 (x:Ds k112.args):vcFun cx112 f112 k112 x=V112 x:=by kernel_rfl
def cx119:Cx:=mkCx TV 5 [(169,k169)] [] [] [] [] [] [] none
def V119 (x:Int):Prop:=((zbK (x,0,1048576))/\(((zao (x,0,1048576)):Bool)=(zel x)))
theorem e119 (x:Ds k119.args):vcFun cx119 f119 k119 x=V119 x:=by kernel_rfl
def cx172:Cx:=mkCx TV 35 [(169,k169)] [] [] [] [] [] [] none
def V172 (x:yZQ × Int):Prop:=(Z.in64 ((x.1.1.2.2.length:Int) - 1)/\((zbK (x.2,0,((x.1.1.2.2.length:Int) - 1)))/\((((!(zao (x.2,0,((x.1.1.2.2.length:Int) - 1))))=true)->((2:Int)=(zbL x)))/\(((!(zao (x.2,0,((x.1.1.2.2.length:Int) - 1))))=false)->(((0:Int)<=x.2/\(x.2:Int)<4)/\(((0:Int)<=x.2/\(x.2:Int)<(x.1.1.2.2.length:Int))/\(((decide (((((x.1.1.2.2.getD (yby x.2) ([],0)).1).length:Int):Int)<=(x.1.2.1.getD (yby x.2) (0,0,0,0)).1)=true)->((9:Int)=(zbL x)))/\((decide (((((x.1.1.2.2.getD (yby x.2) ([],0)).1).length:Int):Int)<=(x.1.2.1.getD (yby x.2) (0,0,0,0)).1)=false)->((0:Int)=(zbL x))))))))))
theorem e172 (x:Ds k172.args):vcFun cx172 f172 k172 x=V172 x:=by kernel_rfl
def cx174:Cx:=mkCx TV 34 [] [] [] [] [] [] [] none
def V174 (x:yZQ × Int × Int):Prop:=(((0:Int)<=x.2.1/\(x.2.1:Int)<4)/\(((decide ((0:Int)<(x.1.2.1.getD (yby x.2.1) (0,0,0,0)).1)=true)->((0:Int)<=x.2.1/\(x.2.1:Int)<(x.1.1.2.2.length:Int)))/\(((decide ((0:Int)<(x.1.2.1.getD (yby x.2.1) (0,0,0,0)).1)=true)->Z.in64 ((((x.1.2.1.getD (yby x.2.1) (0,0,0,0)).2).2).1+(x.1.1.2.2.getD (yby x.2.1) ([],0)).2))/\(((decide ((0:Int)<(x.1.2.1.getD (yby x.2.1) (0,0,0,0)).1)&&decide ((((((x.1.2.1.getD (yby x.2.1) (0,0,0,0)).2).2).1+(x.1.1.2.2.getD (yby x.2.1) ([],0)).2):Int)<x.2.2)):Bool)=(zco x)))))
theorem e174 (x:Ds k174.args):vcFun cx174 f174 k174 x=V174 x:=by kernel_rfl
def cx120:Cx:=mkCx TV 58 [] [] [] [] [] [] [] none
def V120 (x:yZQ × Int × Int):Prop:=(((0:Int)<=x.2.1/\(x.2.1:Int)<4)/\(((0:Int)<=x.2.1/\(x.2.1:Int)<(x.1.1.2.2.length:Int))/\(((0:Int)<=(x.1.2.1.getD (yby x.2.1) (0,0,0,0)).1/\((x.1.2.1.getD (yby x.2.1) (0,0,0,0)).1:Int)<(((x.1.1.2.2.getD (yby x.2.1) ([],0)).1).length:Int))/\(Z.in64 (x.2.2+x.1.1.1)/\(Z.in64 ((x.1.2.1.getD (yby x.2.1) (0,0,0,0)).1+1)/\(Z.in64 ((x.2.2+x.1.1.1)+(((x.1.1.2.2.getD (yby x.2.1) ([],0)).1).getD (yby ((x.1.2.1.getD (yby x.2.1) (0,0,0,0)).1)) (0,0)).1)/\(Z.in64 ((x.2.2+x.1.1.1)+(((x.1.1.2.2.getD (yby x.2.1) ([],0)).1).getD (yby ((x.1.2.1.getD (yby x.2.1) (0,0,0,0)).1)) (0,0)).2)/\(((x.1.1,(x.1.2.1.set (yby x.2.1) (((x.1.2.1.getD (yby x.2.1) (0,0,0,0)).1+1),(x.2.2+x.1.1.1),((x.2.2+x.1.1.1)+(((x.1.1.2.2.getD (yby x.2.1) ([],0)).1).getD (yby ((x.1.2.1.getD (yby x.2.1) (0,0,0,0)).1)) (0,0)).1),((x.2.2+x.1.1.1)+(((x.1.1.2.2.getD (yby x.2.1) ([],0)).1).getD (yby ((x.1.2.1.getD (yby x.2.1) (0,0,0,0)).1)) (0,0)).2))),(x.2.2+x.1.1.1)):yZS)=(zde x)))))))))
theorem e120 (x:Ds (AK.ins k120.args)):vcFunL cx120 f120 120 k120 x=V120 x:=by kernel_rfl
def cx213 (ly:Nat) (x:Ds k213.args):Cx:=mkCx TV 44 [] [] [] [] [] [(1,⟨[(13,false)],[300000],[],[]⟩)] [] (some ⟨ly,300000,k213.two,k213.elt,k213.seq x⟩)
def V213 (ly:Nat) (x:yZQ × Int × Int):Prop:=(True/\(True/\(True/\(True/\(True/\(True/\(True/\Z.LoopP (X:=(Prod Int (Prod (List Int) Bool))) ((0,[],false)) (fun s0 K0=>(((decide ((s0.1:Int)<(x.1.1.2.2.length:Int))=true)->(((0:Int)<=s0.1/\(s0.1:Int)<4)/\(True/\(True/\(True/\(True/\(True/\(True/\(True/\(True/\(True/\(True/\(True/\(True/\(True/\(True/\(True/\(True/\(True/\(True/\((((((!(s0.1==x.2.1))&&decide ((0:Int)<(x.1.2.1.getD (yby s0.1) (0,0,0,0)).1))&&decide ((x.2.2:Int)<(((x.1.2.1.getD (yby s0.1) (0,0,0,0)).2).2).2))=true)->((((ly:Nat)=ly)/\(s0.2.2=false))/\((∃ r1,((zax x)=(s0.2.1++((((x.1.2.1.getD (yby s0.1) (0,0,0,0)).2).2).2::r1))))/\((True/\(True/\(((((((!(s0.1==x.2.1))&&decide ((0:Int)<(x.1.2.1.getD (yby s0.1) (0,0,0,0)).1))&&decide ((x.2.2:Int)<(((x.1.2.1.getD (yby s0.1) (0,0,0,0)).2).2).2))&&(!true))=true)->((false=false)->(((s0.2.1++[(((x.1.2.1.getD (yby s0.1) (0,0,0,0)).2).2).2]):(List Int))=(zax x))))/\((((((!(s0.1==x.2.1))&&decide ((0:Int)<(x.1.2.1.getD (yby s0.1) (0,0,0,0)).1))&&decide ((x.2.2:Int)<(((x.1.2.1.getD (yby s0.1) (0,0,0,0)).2).2).2))&&(!true))=false)->(Z.in64 (s0.1+1)/\(K0 ((s0.1+1),(s0.2.1++[(((x.1.2.1.getD (yby s0.1) (0,0,0,0)).2).2).2]),false)))))))/\(True/\(True/\(((((((!(s0.1==x.2.1))&&decide ((0:Int)<(x.1.2.1.getD (yby s0.1) (0,0,0,0)).1))&&decide ((x.2.2:Int)<(((x.1.2.1.getD (yby s0.1) (0,0,0,0)).2).2).2))&&(!false))=true)->((true=false)->(((s0.2.1++[(((x.1.2.1.getD (yby s0.1) (0,0,0,0)).2).2).2]):(List Int))=(zax x))))/\((((((!(s0.1==x.2.1))&&decide ((0:Int)<(x.1.2.1.getD (yby s0.1) (0,0,0,0)).1))&&decide ((x.2.2:Int)<(((x.1.2.1.getD (yby s0.1) (0,0,0,0)).2).2).2))&&(!false))=false)->(Z.in64 (s0.1+1)/\(K0 ((s0.1+1),(s0.2.1++[(((x.1.2.1.getD (yby s0.1) (0,0,0,0)).2).2).2]),true)))))))))))/\(((((!(s0.1==x.2.1))&&decide ((0:Int)<(x.1.2.1.getD (yby s0.1) (0,0,0,0)).1))&&decide ((x.2.2:Int)<(((x.1.2.1.getD (yby s0.1) (0,0,0,0)).2).2).2))=false)->(True/\(True/\(((((((!(s0.1==x.2.1))&&decide ((0:Int)<(x.1.2.1.getD (yby s0.1) (0,0,0,0)).1))&&decide ((x.2.2:Int)<(((x.1.2.1.getD (yby s0.1) (0,0,0,0)).2).2).2))&&(!false))=true)->((s0.2.2=false)->((s0.2.1:(List Int))=(zax x))))/\((((((!(s0.1==x.2.1))&&decide ((0:Int)<(x.1.2.1.getD (yby s0.1) (0,0,0,0)).1))&&decide ((x.2.2:Int)<(((x.1.2.1.getD (yby s0.1) (0,0,0,0)).2).2).2))&&(!false))=false)->(Z.in64 (s0.1+1)/\(K0 ((s0.1+1),s0.2)))))))))))))))))))))))))))))/\((decide ((s0.1:Int)<(x.1.1.2.2.length:Int))=false)->((s0.2.2=false)->((s0.2.1:(List Int))=(zax x)))))))))))))
theorem e213 (ly:Nat) (x:Ds k213.args):vcIter (cx213 ly x) f213 k213 x=V213 ly x:=by kernel_rfl
def cx201:Cx:=mkCx TV 8 [] [] [(213,k213)] [] [] [] [] none
def V201 (x:yZQ × Int × Int):Prop:=((⟨(zbs (x.1,x.2.1,x.2.2)),(zax (x.1,x.2.1,x.2.2))⟩:(Go.Sx.Seq Int))=(zap x))
theorem e201 (x:Ds k201.args):vcFun cx201 f201 k201 x=V201 x:=by kernel_rfl
def cx199:Cx:=mkCx TV 18 [] [] [] [] [] [(2,⟨[(0,false),(9,false)],[],[],[]⟩)] [] none
def V199 (x:Int × List Int):Prop:=Z.LoopP (X:=yZR) ((x.1,0)) (fun s0 K0=>(((decide ((s0.2:Int)<(x.2.length:Int))=true)->(((0:Int)<=s0.2/\(s0.2:Int)<(x.2.length:Int))/\(Z.in64 (s0.2+1)/\(K0 ((max s0.1 (x.2.getD (yby s0.2) 0)),(s0.2+1))))))/\((decide ((s0.2:Int)<(x.2.length:Int))=false)->((s0.1:Int)=(zal x)))))
theorem e199 (x:Ds k199.args):vcFun cx199 f199 k199 x=V199 x:=by kernel_rfl
def cx234:Cx:=mkCx TV 6 [] [] [] [] [] [] [] none
def V234 (x:Int):Prop:=(((!(x==x)):Bool)=(zcA x))
theorem e234 (x:Ds k234.args):vcFun cx234 f234 k234 x=V234 x:=by kernel_rfl
def cx224:Cx:=mkCx TV 17 [(234,k234)] [] [] [] [] [] [] none
def V224 (x:Int × Int):Prop:=((zdx x.1)/\((((zcA x.1)=true)->(zdx x.2))/\(((((zcA x.1)&&(!(zcA x.2)))||decide ((x.1:Int)<x.2)):Bool)=(zcb x))))
theorem e224 (x:Ds k224.args):vcFun cx224 f224 k224 x=V224 x:=by kernel_rfl
def zok:Cx:=withHld [2] <| mkCx TV 13 [] [] [] [] [2] [(2,⟨[],[2,150128],[],[]⟩)] [] none
def i211u_4:Inl:=mkInl 215 1000000 5000000 zok f215
def cx211:Cx:=withInl [(4,i211u_4)] <| mkCx TV 5 [] [] [] [] [] [] [] none
def V211 (x:Go.Sx.Seq Int):Prop:=(True/\(x.1/\Z.RangeP (X:=(Prod (List Int) (List Int))) (([],[])) x.2 (fun e0 s0 K0=>(Z.roomy 1 ((s0.2++((yaa 1 0).set 0 e0)).length:Int)/\(K0 (s0.1,(s0.2++((yaa 1 0).set 0 e0)))))) (fun s0=>(True/\((s0.2:(List Int))=(zau x))))))
theorem e211 (x:Ds k211.args):vcFunN cx211 f211 k211 x=V211 x:=by kernel_rfl
def cx227:Cx:=withS [9] <| mkCx TV 19 [] [] [] [] [] [] [] none
def V227 (x:Int):Prop:=(((decide ((65536:Int)<=x)=true)->(((0:Int)<=16/\(16:Int)<=32)/\(((decide ((256:Int)<=(ydy x (2^(yby (16)))))=true)->(((0:Int)<=8/\(8:Int)<=32)/\(Z.in64 (16+8)/\(((0:Int)<=(Go.IntKind.wrap .u8 (ydy (ydy x (2^(yby (16)))) (2^(yby (8)))))/\((Go.IntKind.wrap .u8 (ydy (ydy x (2^(yby (16)))) (2^(yby (8))))):Int)<256)/\(Z.in64 ((16+8)+(lenTab.getD (yby (Go.IntKind.wrap .u8 (ydy (ydy x (2^(yby (16)))) (2^(yby (8)))))) 0))/\((((16+8)+(lenTab.getD (yby (Go.IntKind.wrap .u8 (ydy (ydy x (2^(yby (16)))) (2^(yby (8)))))) 0)):Int)=(zbD x)))))))/\((decide ((256:Int)<=(ydy x (2^(yby (16)))))=false)->(((0:Int)<=(Go.IntKind.wrap .u8 (ydy x (2^(yby (16)))))/\((Go.IntKind.wrap .u8 (ydy x (2^(yby (16))))):Int)<256)/\(Z.in64 (16+(lenTab.getD (yby (Go.IntKind.wrap .u8 (ydy x (2^(yby (16)))))) 0))/\(((16+(lenTab.getD (yby (Go.IntKind.wrap .u8 (ydy x (2^(yby (16)))))) 0)):Int)=(zbD x))))))))/\((decide ((65536:Int)<=x)=false)->(((decide ((256:Int)<=x)=true)->(((0:Int)<=8/\(8:Int)<=32)/\(Z.in64 (0+8)/\(((0:Int)<=(Go.IntKind.wrap .u8 (ydy x (2^(yby (8)))))/\((Go.IntKind.wrap .u8 (ydy x (2^(yby (8))))):Int)<256)/\(Z.in64 ((0+8)+(lenTab.getD (yby (Go.IntKind.wrap .u8 (ydy x (2^(yby (8)))))) 0))/\((((0+8)+(lenTab.getD (yby (Go.IntKind.wrap .u8 (ydy x (2^(yby (8)))))) 0)):Int)=(zbD x)))))))/\((decide ((256:Int)<=x)=false)->(((0:Int)<=(Go.IntKind.wrap .u8 x)/\((Go.IntKind.wrap .u8 x):Int)<256)/\(Z.in64 (0+(lenTab.getD (yby (Go.IntKind.wrap .u8 x)) 0))/\(((0+(lenTab.getD (yby (Go.IntKind.wrap .u8 x)) 0)):Int)=(zbD x))))))))
theorem e227 (x:Ds k227.args):vcFun cx227 f227 k227 x=V227 x:=by kernel_rfl
def cx228:Cx:=withS [9] <| mkCx TV 25 [] [] [] [] [] [] [] none
def V228 (x:Int):Prop:=(((decide ((4294967296:Int)<=x)=true)->(((0:Int)<=32/\(32:Int)<=64)/\(((decide ((65536:Int)<=(ydy x (2^(yby (32)))))=true)->(((0:Int)<=16/\(16:Int)<=64)/\(Z.in64 (32+16)/\(((decide ((256:Int)<=(ydy (ydy x (2^(yby (32)))) (2^(yby (16)))))=true)->(((0:Int)<=8/\(8:Int)<=64)/\(Z.in64 ((32+16)+8)/\(((0:Int)<=(Go.IntKind.wrap .u8 (ydy (ydy (ydy x (2^(yby (32)))) (2^(yby (16)))) (2^(yby (8)))))/\((Go.IntKind.wrap .u8 (ydy (ydy (ydy x (2^(yby (32)))) (2^(yby (16)))) (2^(yby (8))))):Int)<256)/\(Z.in64 (((32+16)+8)+(lenTab.getD (yby (Go.IntKind.wrap .u8 (ydy (ydy (ydy x (2^(yby (32)))) (2^(yby (16)))) (2^(yby (8)))))) 0))/\(((((32+16)+8)+(lenTab.getD (yby (Go.IntKind.wrap .u8 (ydy (ydy (ydy x (2^(yby (32)))) (2^(yby (16)))) (2^(yby (8)))))) 0)):Int)=(zaL x)))))))/\((decide ((256:Int)<=(ydy (ydy x (2^(yby (32)))) (2^(yby (16)))))=false)->(((0:Int)<=(Go.IntKind.wrap .u8 (ydy (ydy x (2^(yby (32)))) (2^(yby (16)))))/\((Go.IntKind.wrap .u8 (ydy (ydy x (2^(yby (32)))) (2^(yby (16))))):Int)<256)/\(Z.in64 ((32+16)+(lenTab.getD (yby (Go.IntKind.wrap .u8 (ydy (ydy x (2^(yby (32)))) (2^(yby (16)))))) 0))/\((((32+16)+(lenTab.getD (yby (Go.IntKind.wrap .u8 (ydy (ydy x (2^(yby (32)))) (2^(yby (16)))))) 0)):Int)=(zaL x)))))))))/\((decide ((65536:Int)<=(ydy x (2^(yby (32)))))=false)->(((decide ((256:Int)<=(ydy x (2^(yby (32)))))=true)->(((0:Int)<=8/\(8:Int)<=64)/\(Z.in64 (32+8)/\(((0:Int)<=(Go.IntKind.wrap .u8 (ydy (ydy x (2^(yby (32)))) (2^(yby (8)))))/\((Go.IntKind.wrap .u8 (ydy (ydy x (2^(yby (32)))) (2^(yby (8))))):Int)<256)/\(Z.in64 ((32+8)+(lenTab.getD (yby (Go.IntKind.wrap .u8 (ydy (ydy x (2^(yby (32)))) (2^(yby (8)))))) 0))/\((((32+8)+(lenTab.getD (yby (Go.IntKind.wrap .u8 (ydy (ydy x (2^(yby (32)))) (2^(yby (8)))))) 0)):Int)=(zaL x)))))))/\((decide ((256:Int)<=(ydy x (2^(yby (32)))))=false)->(((0:Int)<=(Go.IntKind.wrap .u8 (ydy x (2^(yby (32)))))/\((Go.IntKind.wrap .u8 (ydy x (2^(yby (32))))):Int)<256)/\(Z.in64 (32+(lenTab.getD (yby (Go.IntKind.wrap .u8 (ydy x (2^(yby (32)))))) 0))/\(((32+(lenTab.getD (yby (Go.IntKind.wrap .u8 (ydy x (2^(yby (32)))))) 0)):Int)=(zaL x))))))))))/\((decide ((4294967296:Int)<=x)=false)->(((decide ((65536:Int)<=x)=true)->(((0:Int)<=16/\(16:Int)<=64)/\(Z.in64 (0+16)/\(((decide ((256:Int)<=(ydy x (2^(yby (16)))))=true)->(((0:Int)<=8/\(8:Int)<=64)/\(Z.in64 ((0+16)+8)/\(((0:Int)<=(Go.IntKind.wrap .u8 (ydy (ydy x (2^(yby (16)))) (2^(yby (8)))))/\((Go.IntKind.wrap .u8 (ydy (ydy x (2^(yby (16)))) (2^(yby (8))))):Int)<256)/\(Z.in64 (((0+16)+8)+(lenTab.getD (yby (Go.IntKind.wrap .u8 (ydy (ydy x (2^(yby (16)))) (2^(yby (8)))))) 0))/\(((((0+16)+8)+(lenTab.getD (yby (Go.IntKind.wrap .u8 (ydy (ydy x (2^(yby (16)))) (2^(yby (8)))))) 0)):Int)=(zaL x)))))))/\((decide ((256:Int)<=(ydy x (2^(yby (16)))))=false)->(((0:Int)<=(Go.IntKind.wrap .u8 (ydy x (2^(yby (16)))))/\((Go.IntKind.wrap .u8 (ydy x (2^(yby (16))))):Int)<256)/\(Z.in64 ((0+16)+(lenTab.getD (yby (Go.IntKind.wrap .u8 (ydy x (2^(yby (16)))))) 0))/\((((0+16)+(lenTab.getD (yby (Go.IntKind.wrap .u8 (ydy x (2^(yby (16)))))) 0)):Int)=(zaL x)))))))))/\((decide ((65536:Int)<=x)=false)->(((decide ((256:Int)<=x)=true)->(((0:Int)<=8/\(8:Int)<=64)/\(Z.in64 (0+8)/\(((0:Int)<=(Go.IntKind.wrap .u8 (ydy x (2^(yby (8)))))/\((Go.IntKind.wrap .u8 (ydy x (2^(yby (8))))):Int)<256)/\(Z.in64 ((0+8)+(lenTab.getD (yby (Go.IntKind.wrap .u8 (ydy x (2^(yby (8)))))) 0))/\((((0+8)+(lenTab.getD (yby (Go.IntKind.wrap .u8 (ydy x (2^(yby (8)))))) 0)):Int)=(zaL x)))))))/\((decide ((256:Int)<=x)=false)->(((0:Int)<=(Go.IntKind.wrap .u8 x)/\((Go.IntKind.wrap .u8 x):Int)<256)/\(Z.in64 (0+(lenTab.getD (yby (Go.IntKind.wrap .u8 x)) 0))/\(((0+(lenTab.getD (yby (Go.IntKind.wrap .u8 x)) 0)):Int)=(zaL x))))))))))
theorem e228 (x:Ds k228.args):vcFun cx228 f228 k228 x=V228 x:=by kernel_rfl
def cx217:Cx:=withS [9] <| mkCx TV 8 [(227,k227),(228,k228)] [] [] [] [] [] [] none
def V217 (x:Int):Prop:=(((false=true)->((zdE (Go.IntKind.wrap .u32 x))/\(((zbD (Go.IntKind.wrap .u32 x)):Int)=(zcz x))))/\((false=false)->((zdD x)/\(((zaL x):Int)=(zcz x)))))
theorem e217 (x:Ds k217.args):vcFun cx217 f217 k217 x=V217 x:=by kernel_rfl
def zeW:Cx:=mkCx TV 49 [(224,k224)] [] [] [] [] [(1,⟨[(6,false)],[100000000000005],[1000000000000000006],[]⟩),(4,⟨[(7,false)],[100000000000005],[1000000000000000006],[]⟩)] [] none
def zdo:Inl:=mkInl 218 1000000 28000000 zeW f218
def zgy:Cx:=withInl [(27,zdo)] <| mkCx TV 134 [(224,k224)] [] [] [] [] [(2,⟨[(1,false),(2,false),(3,false),(8,false),(9,false)],[100000000000005],[1000000000000000006],[]⟩)] [] none
def zez:Inl:=mkInl 216 10000000000 110000000000 zgy f216
def zkp:Cx:=withInl [(10,zez)] <| mkCx TV 11 [(217,k217)] [] [] [] [] [] [] none
def zho:Inl:=mkInl 212 100000000000000 800000000000000 zkp f212
def znx:Cx:=withInl [(7,zho)] <| mkCxN TV 9 [] [] [] [(211,k211)] [] [] [] [] none
def zlv:Inl:=mkInl 200 1000000000000000000 38000000000000000000 znx f200
def cx173:Cx:=withInl [(37,zlv)] <| mkCx TV 67 [(199,k199),(201,k201)] [] [] [] [] [] [] none
def V173 (x:yZQ × Int):Prop:=(((0:Int)<=x.2/\(x.2:Int)<4)/\(((decide ((0:Int)<(x.1.2.1.getD (yby x.2) (0,0,0,0)).1)=true)->((zbF (x.1.2.2,((yaa 1 0).set 0 ((((x.1.2.1.getD (yby x.2) (0,0,0,0)).2).2).2))))/\(True/\(True/\(True/\(True/\(True/\(True/\(True/\(True/\(Z.in64 ((zal (x.1.2.2,((yaa 1 0).set 0 ((((x.1.2.1.getD (yby x.2) (0,0,0,0)).2).2).2))))+x.1.1.1)/\((zcq (x.1,x.2,((zal (x.1.2.2,((yaa 1 0).set 0 ((((x.1.2.1.getD (yby x.2) (0,0,0,0)).2).2).2))))+x.1.1.1)))/\((zch (zap (x.1,x.2,((zal (x.1.2.2,((yaa 1 0).set 0 ((((x.1.2.1.getD (yby x.2) (0,0,0,0)).2).2).2))))+x.1.1.1))))/\(True/\(True/\(True/\(True/\(True/\((zcy (Go.IntKind.wrap .u64 ((zau (zap (x.1,x.2,((zal (x.1.2.2,((yaa 1 0).set 0 ((((x.1.2.1.getD (yby x.2) (0,0,0,0)).2).2).2))))+x.1.1.1)))).length:Int)))/\Z.LoopP (X:=yZK) ((0,((zau (zap (x.1,x.2,((zal (x.1.2.2,((yaa 1 0).set 0 ((((x.1.2.1.getD (yby x.2) (0,0,0,0)).2).2).2))))+x.1.1.1)))).length:Int),(zcz (Go.IntKind.wrap .u64 ((zau (zap (x.1,x.2,((zal (x.1.2.2,((yaa 1 0).set 0 ((((x.1.2.1.getD (yby x.2) (0,0,0,0)).2).2).2))))+x.1.1.1)))).length:Int))),true,true,(zau (zap (x.1,x.2,((zal (x.1.2.2,((yaa 1 0).set 0 ((((x.1.2.1.getD (yby x.2) (0,0,0,0)).2).2).2))))+x.1.1.1)))))) (fun s0 K0=>(Z.in64 (s0.2.1 - s0.1)/\(((decide (((s0.2.1 - s0.1):Int)<=12)=true)->(True/\(True/\(True/\(Z.in64 (s0.1+1)/\Z.LoopP (X:=yZH) (((s0.1+1),s0.2.2.2.2.2)) (fun s1 K1=>(((decide ((s1.1:Int)<s0.2.1)=true)->Z.LoopP (X:=yZH) ((s1.1,s1.2)) (fun s2 K2=>(((decide ((s0.1:Int)<s2.1)=true)->((0:Int)<=s2.1/\(s2.1:Int)<(s2.2.length:Int)))/\(((decide ((s0.1:Int)<s2.1)=true)->Z.in64 (s2.1 - 1))/\(((decide ((s0.1:Int)<s2.1)=true)->((0:Int)<=(s2.1 - 1)/\((s2.1 - 1):Int)<(s2.2.length:Int)))/\(((decide ((s0.1:Int)<s2.1)=true)->(zcS ((s2.2.getD (yby s2.1) 0),(s2.2.getD (yby (s2.1 - 1)) 0))))/\((((decide ((s0.1:Int)<s2.1)&&(zcb ((s2.2.getD (yby s2.1) 0),(s2.2.getD (yby (s2.1 - 1)) 0))))=true)->(Z.in64 (s2.1 - 1)/\(Z.in64 (s2.1 - 1)/\(((0:Int)<=(s2.1 - 1)/\((s2.1 - 1):Int)<(s2.2.length:Int))/\(((0:Int)<=s2.1/\(s2.1:Int)<(s2.2.length:Int))/\(((0:Int)<=s2.1/\(s2.1:Int)<(s2.2.length:Int))/\(((0:Int)<=(s2.1 - 1)/\((s2.1 - 1):Int)<((s2.2.set (yby s2.1) (s2.2.getD (yby (s2.1 - 1)) 0)).length:Int))/\(Z.in64 (s2.1 - 1)/\((((x.1.2.1.getD (yby x.2) (0,0,0,0)):yZM)=(x.1.2.1.getD (yby x.2) (0,0,0,0)))/\(K2 ((s2.1 - 1),((s2.2.set (yby s2.1) (s2.2.getD (yby (s2.1 - 1)) 0)).set (yby (s2.1 - 1)) (s2.2.getD (yby s2.1) 0)))))))))))))/\(((decide ((s0.1:Int)<s2.1)&&(zcb ((s2.2.getD (yby s2.1) 0),(s2.2.getD (yby (s2.1 - 1)) 0))))=false)->(Z.in64 (s1.1+1)/\((((x.1.2.1.getD (yby x.2) (0,0,0,0)):yZM)=(x.1.2.1.getD (yby x.2) (0,0,0,0)))/\(K1 ((s1.1+1),s2.2))))))))))))/\((decide ((s1.1:Int)<s0.2.1)=false)->(True/\(((decide ((x.1.1.2.1:Int)<=(s1.2.length:Int))=true)->(Z.in64 ((s1.2.length:Int) - x.1.1.2.1)/\(((0:Int)<=((s1.2.length:Int) - x.1.1.2.1)/\(((s1.2.length:Int) - x.1.1.2.1):Int)<(s1.2.length:Int))/\(Z.in64 ((s1.2.getD (yby ((s1.2.length:Int) - x.1.1.2.1)) 0) - x.1.1.1)/\((zbF ((zal (x.1.2.2,((yaa 1 0).set 0 ((((x.1.2.1.getD (yby x.2) (0,0,0,0)).2).2).2)))),((yaa 1 0).set 0 ((s1.2.getD (yby ((s1.2.length:Int) - x.1.1.2.1)) 0) - x.1.1.1))))/\(((zal ((zal (x.1.2.2,((yaa 1 0).set 0 ((((x.1.2.1.getD (yby x.2) (0,0,0,0)).2).2).2)))),((yaa 1 0).set 0 ((s1.2.getD (yby ((s1.2.length:Int) - x.1.1.2.1)) 0) - x.1.1.1)))):Int)=(zaM x)))))))/\((decide ((x.1.1.2.1:Int)<=(s1.2.length:Int))=false)->(((zal (x.1.2.2,((yaa 1 0).set 0 ((((x.1.2.1.getD (yby x.2) (0,0,0,0)).2).2).2)))):Int)=(zaM x)))))))))))))/\((decide (((s0.2.1 - s0.1):Int)<=12)=false)->((((s0.2.2.1==0)=true)->False)/\(((s0.2.2.1==0)=false)->((((!s0.2.2.2.1)=true)->False)/\(((!s0.2.2.2.1)=false)->False)))))))))))))))))))))))))))/\((decide ((0:Int)<(x.1.2.1.getD (yby x.2) (0,0,0,0)).1)=false)->(True/\(True/\(True/\(True/\(True/\(True/\(True/\(True/\(Z.in64 (x.1.2.2+x.1.1.1)/\((zcq (x.1,x.2,(x.1.2.2+x.1.1.1)))/\((zch (zap (x.1,x.2,(x.1.2.2+x.1.1.1))))/\(True/\(True/\(True/\(True/\(True/\((zcy (Go.IntKind.wrap .u64 ((zau (zap (x.1,x.2,(x.1.2.2+x.1.1.1)))).length:Int)))/\Z.LoopP (X:=yZK) ((0,((zau (zap (x.1,x.2,(x.1.2.2+x.1.1.1)))).length:Int),(zcz (Go.IntKind.wrap .u64 ((zau (zap (x.1,x.2,(x.1.2.2+x.1.1.1)))).length:Int))),true,true,(zau (zap (x.1,x.2,(x.1.2.2+x.1.1.1)))))) (fun s3 K3=>(Z.in64 (s3.2.1 - s3.1)/\(((decide (((s3.2.1 - s3.1):Int)<=12)=true)->(True/\(True/\(True/\(Z.in64 (s3.1+1)/\Z.LoopP (X:=yZH) (((s3.1+1),s3.2.2.2.2.2)) (fun s4 K4=>(((decide ((s4.1:Int)<s3.2.1)=true)->Z.LoopP (X:=yZH) ((s4.1,s4.2)) (fun s5 K5=>(((decide ((s3.1:Int)<s5.1)=true)->((0:Int)<=s5.1/\(s5.1:Int)<(s5.2.length:Int)))/\(((decide ((s3.1:Int)<s5.1)=true)->Z.in64 (s5.1 - 1))/\(((decide ((s3.1:Int)<s5.1)=true)->((0:Int)<=(s5.1 - 1)/\((s5.1 - 1):Int)<(s5.2.length:Int)))/\(((decide ((s3.1:Int)<s5.1)=true)->(zcS ((s5.2.getD (yby s5.1) 0),(s5.2.getD (yby (s5.1 - 1)) 0))))/\((((decide ((s3.1:Int)<s5.1)&&(zcb ((s5.2.getD (yby s5.1) 0),(s5.2.getD (yby (s5.1 - 1)) 0))))=true)->(Z.in64 (s5.1 - 1)/\(Z.in64 (s5.1 - 1)/\(((0:Int)<=(s5.1 - 1)/\((s5.1 - 1):Int)<(s5.2.length:Int))/\(((0:Int)<=s5.1/\(s5.1:Int)<(s5.2.length:Int))/\(((0:Int)<=s5.1/\(s5.1:Int)<(s5.2.length:Int))/\(((0:Int)<=(s5.1 - 1)/\((s5.1 - 1):Int)<((s5.2.set (yby s5.1) (s5.2.getD (yby (s5.1 - 1)) 0)).length:Int))/\(Z.in64 (s5.1 - 1)/\((((x.1.2.1.getD (yby x.2) (0,0,0,0)):yZM)=(x.1.2.1.getD (yby x.2) (0,0,0,0)))/\(K5 ((s5.1 - 1),((s5.2.set (yby s5.1) (s5.2.getD (yby (s5.1 - 1)) 0)).set (yby (s5.1 - 1)) (s5.2.getD (yby s5.1) 0)))))))))))))/\(((decide ((s3.1:Int)<s5.1)&&(zcb ((s5.2.getD (yby s5.1) 0),(s5.2.getD (yby (s5.1 - 1)) 0))))=false)->(Z.in64 (s4.1+1)/\((((x.1.2.1.getD (yby x.2) (0,0,0,0)):yZM)=(x.1.2.1.getD (yby x.2) (0,0,0,0)))/\(K4 ((s4.1+1),s5.2))))))))))))/\((decide ((s4.1:Int)<s3.2.1)=false)->(True/\(((decide ((x.1.1.2.1:Int)<=(s4.2.length:Int))=true)->(Z.in64 ((s4.2.length:Int) - x.1.1.2.1)/\(((0:Int)<=((s4.2.length:Int) - x.1.1.2.1)/\(((s4.2.length:Int) - x.1.1.2.1):Int)<(s4.2.length:Int))/\(Z.in64 ((s4.2.getD (yby ((s4.2.length:Int) - x.1.1.2.1)) 0) - x.1.1.1)/\((zbF (x.1.2.2,((yaa 1 0).set 0 ((s4.2.getD (yby ((s4.2.length:Int) - x.1.1.2.1)) 0) - x.1.1.1))))/\(((zal (x.1.2.2,((yaa 1 0).set 0 ((s4.2.getD (yby ((s4.2.length:Int) - x.1.1.2.1)) 0) - x.1.1.1)))):Int)=(zaM x)))))))/\((decide ((x.1.1.2.1:Int)<=(s4.2.length:Int))=false)->((x.1.2.2:Int)=(zaM x)))))))))))))/\((decide (((s3.2.1 - s3.1):Int)<=12)=false)->((((s3.2.2.1==0)=true)->False)/\(((s3.2.2.1==0)=false)->((((!s3.2.2.2.1)=true)->False)/\(((!s3.2.2.2.1)=false)->False))))))))))))))))))))))))))))
theorem e173 (x:Ds k173.args):vcFun cx173 f173 k173 x=V173 x:=by kernel_rfl
def cx116:Cx:=mkCx TV 27 [(172,k172),(173,k173),(174,k174)] [(120,k120)] [] [] [] [] [] none
def V116 (x:yZQ × Int):Prop:=((zeB (x.1,x.2))/\((((!((zbL (x.1,x.2))==0))=true)->(((0,(zbL (x.1,x.2)),x.1):yZE)=(zah x)))/\(((!((zbL (x.1,x.2))==0))=false)->((zeo (x.1,x.2))/\((zdJ (x.1,x.2,(zaM (x.1,x.2))))/\((((zco (x.1,x.2,(zaM (x.1,x.2))))=true)->(((0,11,x.1):yZE)=(zah x)))/\(((zco (x.1,x.2,(zaM (x.1,x.2))))=false)->(((zdw (x.1,x.2,(zaM (x.1,x.2))))/\(True/\True))/\((((zaM (x.1,x.2)),0,(zde (x.1,x.2,(zaM (x.1,x.2))))):yZE)=(zah x))))))))))
theorem e116 (x:Ds (AK.ins k116.args)):vcFunL cx116 f116 116 k116 x=V116 x:=by kernel_rfl
def cx115:Cx:=mkCx TV 18 [] [] [] [] [] [(2,⟨[(2,false),(9,false)],[],[],[]⟩)] [] none
def V115 (x:yZI × (List (Int × Int × Int × Int)) × Int):Prop:=Z.LoopP (X:=yZR) ((0,0)) (fun s0 K0=>(((decide ((s0.2:Int)<4)=true)->(((0:Int)<=s0.2/\(s0.2:Int)<4)/\(Z.in64 (s0.2+1)/\(K0 ((max s0.1 ((((x.2.1.getD (yby s0.2) (0,0,0,0)).2).2).2)),(s0.2+1))))))/\((decide ((s0.2:Int)<4)=false)->((s0.1:Int)=(zbz x)))))
theorem e115 (x:Ds k115.args):vcFun cx115 f115 k115 x=V115 x:=by kernel_rfl
def cx45:Cx:=mkCx TV 50 [(112,k112),(113,k113)] [(116,k116)] [] [] [17] [(5,⟨[(4,true),(20,false)],[17],[],[]⟩)] [] none
def V45 (x:yZI × List Int):Prop:=((zdN x.1)/\((((!(zct x.1))=true)->((([],0,1):yZL)=(zaV x)))/\(((!(zct x.1))=false)->Z.LoopP (X:=(Prod (List Int) (Prod Int yZS))) (([],0,x.1,(yaa 4 (0,0,0,0)),0)) (fun s0 K0=>(((decide ((s0.2.1:Int)<(x.2.length:Int))=true)->(((0:Int)<=s0.2.1/\(s0.2.1:Int)<(x.2.length:Int))/\(((zcZ (s0.2.2,(x.2.getD (yby s0.2.1) 0)))/\(True/\True))/\((((!(((zah (s0.2.2,(x.2.getD (yby s0.2.1) 0))).2).1==0))=true)->((([],s0.2.1,((zah (s0.2.2,(x.2.getD (yby s0.2.1) 0))).2).1):yZL)=(zaV x)))/\(((!(((zah (s0.2.2,(x.2.getD (yby s0.2.1) 0))).2).1==0))=false)->(Z.roomy 1 ((s0.1++((yaa 1 0).set 0 ((zah (s0.2.2,(x.2.getD (yby s0.2.1) 0))).1))).length:Int)/\(Z.in64 (s0.2.1+1)/\(K0 ((s0.1++((yaa 1 0).set 0 ((zah (s0.2.2,(x.2.getD (yby s0.2.1) 0))).1))),(s0.2.1+1),((zah (s0.2.2,(x.2.getD (yby s0.2.1) 0))).2).2)))))))))/\((decide ((s0.2.1:Int)<(x.2.length:Int))=false)->((zcR x.1)/\(((decide (((x.2.length:Int):Int)<(zaY x.1))=true)->((([],(x.2.length:Int),4):yZL)=(zaV x)))/\((decide (((x.2.length:Int):Int)<(zaY x.1))=false)->(((s0.1,(x.2.length:Int),0):yZL)=(zaV x)))))))))))
theorem e45 (x:Ds k45.args):vcFun cx45 f45 k45 x=V45 x:=by kernel_rfl
def cx47:Cx:=mkCx TV 95 [(45,k45),(119,k119)] [(120,k120)] [] [] [34] [(8,⟨[(37,false)],[34],[6],[]⟩),(14,⟨[(64,false)],[6],[34],[]⟩)] [] none
def V47 (x:yZI × (List Int) × Int):Prop:=((zeC (x.1,x.2.1))/\((((!(((zaV (x.1,x.2.1)).2).2==0))=true)->((((0,0),((zaV (x.1,x.2.1)).2).2):yZD)=(zbT x)))/\(((!(((zaV (x.1,x.2.1)).2).2==0))=false)->((zfM x.2.2)/\((((!(zel x.2.2))=true)->((((0,0),2):yZD)=(zbT x)))/\(((!(zel x.2.2))=false)->Z.LoopP (X:=(Prod Int yZS)) ((0,x.1,(yaa 4 (0,0,0,0)),0)) (fun s0 K0=>(((decide ((s0.1:Int)<(x.2.1.length:Int))=true)->(((0:Int)<=s0.1/\(s0.1:Int)<(x.2.1.length:Int))/\(((0:Int)<=s0.1/\(s0.1:Int)<(((zaV (x.1,x.2.1)).1).length:Int))/\(Z.in64 ((((zaV (x.1,x.2.1)).1).getD (yby s0.1) 0)+x.1.1)/\(((decide ((((((zaV (x.1,x.2.1)).1).getD (yby s0.1) 0)+x.1.1):Int)<=x.2.2)=true)->(((0:Int)<=s0.1/\(s0.1:Int)<(((zaV (x.1,x.2.1)).1).length:Int))/\(((zdw (s0.2,(x.2.1.getD (yby s0.1) 0),(((zaV (x.1,x.2.1)).1).getD (yby s0.1) 0)))/\(True/\True))/\(Z.in64 (s0.1+1)/\((((0,0):yZR)=(0,0))/\(K0 ((s0.1+1),(zde (s0.2,(x.2.1.getD (yby s0.1) 0),(((zaV (x.1,x.2.1)).1).getD (yby s0.1) 0))))))))))/\((decide ((((((zaV (x.1,x.2.1)).1).getD (yby s0.1) 0)+x.1.1):Int)<=x.2.2)=false)->(Z.in64 (s0.1+1)/\((((0,0):yZR)=(0,0))/\(K0 ((s0.1+1),s0.2))))))))))/\((decide ((s0.1:Int)<(x.2.1.length:Int))=false)->Z.LoopP (X:=(Prod Int yZR)) ((0,0,0)) (fun s1 K1=>(((decide ((s1.1:Int)<4)=true)->(((0:Int)<=s1.1/\(s1.1:Int)<4)/\((((decide ((0:Int)<(s0.2.2.1.getD (yby s1.1) (0,0,0,0)).1)&&decide ((x.2.2:Int)<(((s0.2.2.1.getD (yby s1.1) (0,0,0,0)).2).2).1))=true)->(Z.in64 (s1.2.1+1)/\((((decide ((0:Int)<(s0.2.2.1.getD (yby s1.1) (0,0,0,0)).1)&&decide ((x.2.2:Int)<(((s0.2.2.1.getD (yby s1.1) (0,0,0,0)).2).2).2))=true)->(Z.in64 (s1.2.2+1)/\(Z.in64 (s1.1+1)/\(((s0.2:yZS)=s0.2)/\(K1 ((s1.1+1),(s1.2.1+1),(s1.2.2+1)))))))/\(((decide ((0:Int)<(s0.2.2.1.getD (yby s1.1) (0,0,0,0)).1)&&decide ((x.2.2:Int)<(((s0.2.2.1.getD (yby s1.1) (0,0,0,0)).2).2).2))=false)->(Z.in64 (s1.1+1)/\(((s0.2:yZS)=s0.2)/\(K1 ((s1.1+1),(s1.2.1+1),s1.2.2))))))))/\(((decide ((0:Int)<(s0.2.2.1.getD (yby s1.1) (0,0,0,0)).1)&&decide ((x.2.2:Int)<(((s0.2.2.1.getD (yby s1.1) (0,0,0,0)).2).2).1))=false)->((((decide ((0:Int)<(s0.2.2.1.getD (yby s1.1) (0,0,0,0)).1)&&decide ((x.2.2:Int)<(((s0.2.2.1.getD (yby s1.1) (0,0,0,0)).2).2).2))=true)->(Z.in64 (s1.2.2+1)/\(Z.in64 (s1.1+1)/\(((s0.2:yZS)=s0.2)/\(K1 ((s1.1+1),s1.2.1,(s1.2.2+1)))))))/\(((decide ((0:Int)<(s0.2.2.1.getD (yby s1.1) (0,0,0,0)).1)&&decide ((x.2.2:Int)<(((s0.2.2.1.getD (yby s1.1) (0,0,0,0)).2).2).2))=false)->(Z.in64 (s1.1+1)/\(((s0.2:yZS)=s0.2)/\(K1 ((s1.1+1),s1.2))))))))))/\((decide ((s1.1:Int)<4)=false)->(((s1.2,0):yZD)=(zbT x))))))))))))))
theorem e47 (x:Ds k47.args):vcFun cx47 f47 k47 x=V47 x:=by kernel_rfl
def cx114 (x:Ds (AK.ins k114.args)):Cx:=mkCxN TV 70 [(115,k115)] [(116,k116),(114,k114.upTo m114 (m114 x))] [] [(87,k87)] [] [] [(5,⟨[(34,false)],[200006,200008],[200012],[]⟩)] [] none
def V114 (x:yZQ × (List Int) × Int × (List Int) × Int × Int × Int × List yZP):Prop:=(((((x.2.1.length:Int)==x.2.2.1)=true)->((zd x.1)/\(True/\(True/\(True/\(True/\(True/\(True/\((((((x.2.2.2.1.length:Int)==0)||decide (((zbz x.1):Int)<x.2.2.2.2.1))=true)->((zcu x.2.1)/\((((zaC x.2.1)=[])->False)/\(((x.2.2.1:Int)=x.2.2.1)/\(True/\(True/\(((x.2.2.2.2.2:yZO)=x.2.2.2.2.2)/\(True/\((((zaC x.2.1),(zbz x.1)):yZF)=(zbj x))))))))))/\(((((x.2.2.2.1.length:Int)==0)||decide (((zbz x.1):Int)<x.2.2.2.2.1))=false)->(((x.2.2.1:Int)=x.2.2.1)/\(True/\(True/\(((x.2.2.2.2.2:yZO)=x.2.2.2.2.2)/\(True/\(((x.2.2.2.1,x.2.2.2.2.1):yZF)=(zbj x)))))))))))))))))/\((((x.2.1.length:Int)==x.2.2.1)=false)->Z.LoopP (X:=(Prod Int yZF)) ((0,x.2.2.2.1,x.2.2.2.2.1)) (fun s0 K0=>(((decide ((s0.1:Int)<(x.2.2.2.2.2.2.2.length:Int))=true)->(((zcZ (x.1,s0.1))/\(True/\True))/\(((((!((s0.2.1.length:Int)==0))=true)/\((!(((zah (x.1,s0.1)).2).1==0))=false))->(zd (((zah (x.1,s0.1)).2).2)))/\(((((!(((zah (x.1,s0.1)).2).1==0))||((!((s0.2.1.length:Int)==0))&&decide ((s0.2.2:Int)<=(zbz (((zah (x.1,s0.1)).2).2)))))=true)->(Z.in64 (s0.1+1)/\((((x.2.2.1:Int)=x.2.2.1)/\(True/\(True/\(((x.2.2.2.2.2:yZO)=x.2.2.2.2.2)/\(True/\True)))))/\(K0 ((s0.1+1),s0.2.1,s0.2.2)))))/\((((!(((zah (x.1,s0.1)).2).1==0))||((!((s0.2.1.length:Int)==0))&&decide ((s0.2.2:Int)<=(zbz (((zah (x.1,s0.1)).2).2)))))=false)->(Z.in64 ((x.2.1.length:Int)+1)/\((((0:Int)<=((x.2.1.length:Int)+1)/\(((x.2.1.length:Int)+1):Int)<=((x.2.1.length:Int)+1))/\Z.roomy 1 ((x.2.1.length:Int)+1))/\((decide (((x.2.1.length:Int):Int)<=((yaa (yby ((x.2.1.length:Int)+1)) (0:Int)).length:Int))=true)/\(((0:Int)<=(x.2.1.length:Int)/\((x.2.1.length:Int):Int)<((x.2.1++((yaa (yby ((x.2.1.length:Int)+1)) (0:Int)).drop (yby (x.2.1.length:Int)))).length:Int))/\(((zhN x (((zah (x.1,s0.1)).2).2,(moreL x.2.1 s0.1),x.2.2.1,s0.2.1,s0.2.2,x.2.2.2.2.2))/\((((x.2.2.1:Int)=x.2.2.1)/\(True/\(True/\(((x.2.2.2.2.2:yZO)=x.2.2.2.2.2)/\(True/\True)))))/\True))/\(Z.in64 (s0.1+1)/\((((x.2.2.1:Int)=x.2.2.1)/\(True/\(True/\(((x.2.2.2.2.2:yZO)=x.2.2.2.2.2)/\(True/\True)))))/\(K0 ((s0.1+1),(zbj (((zah (x.1,s0.1)).2).2,(moreL x.2.1 s0.1),x.2.2.1,s0.2.1,s0.2.2,x.2.2.2.2.2)).1,(zbj (((zah (x.1,s0.1)).2).2,(moreL x.2.1 s0.1),x.2.2.1,s0.2.1,s0.2.2,x.2.2.2.2.2)).2))))))))))))))/\((decide ((s0.1:Int)<(x.2.2.2.2.2.2.2.length:Int))=false)->(((x.2.2.1:Int)=x.2.2.1)/\(True/\(True/\(((x.2.2.2.2.2:yZO)=x.2.2.2.2.2)/\(True/\(((s0.2.1,s0.2.2):yZF)=(zbj x))))))))))))
theorem e114 (x:Ds (AK.ins k114.args)):vcFunL (cx114 x) f114 114 k114 x=V114 x:=by kernel_rfl
def cx44:Cx:=withFrc [(12,5)] <| withZ [2] <| mkCx TV 22 [(112,k112),(113,k113)] [(114,k114)] [] [6] [] [] [] none
def V44 (x:Int × Int × List yZP):Prop:=((zdN x)/\((((!(zct x))=true)->((([],0,1):yZL)=(zca x)))/\(((!(zct x))=false)->((zcR x)/\(((zdO ((x,(yaa 4 (0,0,0,0)),0),[],(zaY x),[],0,x))/\(((((zaY x):Int)=(zaY x))/\(True/\(True/\(((x:yZO)=x)/\(True/\True)))))/\True))/\(True/\(((((((zbj ((x,(yaa 4 (0,0,0,0)),0),[],(zaY x),[],0,x)).1).length:Int)==0)=true)->((([],0,4):yZL)=(zca x)))/\((((((zbj ((x,(yaa 4 (0,0,0,0)),0),[],(zaY x),[],0,x)).1).length:Int)==0)=false)->((((zbj ((x,(yaa 4 (0,0,0,0)),0),[],(zaY x),[],0,x)).1,(zbj ((x,(yaa 4 (0,0,0,0)),0),[],(zaY x),[],0,x)).2,0):yZL)=(zca x))))))))))
theorem e44 (x:Ds k44.args):vcFun cx44 f44 k44 x=V44 x:=by kernel_rfl
def cx43:Cx:=mkCx TV 52 [(44,k44),(41,k41),(111,k111)] [] [] [] [] [] [] none
def V43 (x:Unit):Prop:=((zfm (2,1,(((yaa 2 ([],0)).set 0 ((((yaa 2 (0,0)).set 0 (4,6)).set 1 (3,5)),10)).set 1 (((yaa 1 (0,0)).set 0 (5,8)),10))))/\((zee (((yaa 1 (0,(0,0),0,0)).set 0 (6,(100,120),10,12)),((yaa 1 (0,0,0,0)).set 0 (1,110,15,0))))/\((zfy ((zca (2,1,(((yaa 2 ([],0)).set 0 ((((yaa 2 (0,0)).set 0 (4,6)).set 1 (3,5)),10)).set 1 (((yaa 1 (0,0)).set 0 (5,8)),10)))).1,((((yaa 3 0).set 0 0).set 1 1).set 2 0)))/\(((((((zcF ((zca (2,1,(((yaa 2 ([],0)).set 0 ((((yaa 2 (0,0)).set 0 (4,6)).set 1 (3,5)),10)).set 1 (((yaa 1 (0,0)).set 0 (5,8)),10)))).1,((((yaa 3 0).set 0 0).set 1 1).set 2 0)))&&(((zca (2,1,(((yaa 2 ([],0)).set 0 ((((yaa 2 (0,0)).set 0 (4,6)).set 1 (3,5)),10)).set 1 (((yaa 1 (0,0)).set 0 (5,8)),10)))).2).1==21))&&(((zca (2,1,(((yaa 2 ([],0)).set 0 ((((yaa 2 (0,0)).set 0 (4,6)).set 1 (3,5)),10)).set 1 (((yaa 1 (0,0)).set 0 (5,8)),10)))).2).2==0))&&((zan (((yaa 1 (0,(0,0),0,0)).set 0 (6,(100,120),10,12)),((yaa 1 (0,0,0,0)).set 0 (1,110,15,0)))).1==1))&&((zan (((yaa 1 (0,(0,0),0,0)).set 0 (6,(100,120),10,12)),((yaa 1 (0,0,0,0)).set 0 (1,110,15,0)))).2==0)):Bool)=(zcD x)))))
theorem e43 (x:Ds k43.args):vcFun cx43 f43 k43 x=V43 x:=by kernel_rfl
def cx8:Cx:=withHld [14,101] <| withNlp [(101,[(0,92),(1,91)])] <| mkCx TV 276 [(42,k42),(43,k43),(44,k44),(45,k45),(41,k41),(46,k46),(47,k47)] [] [] [] [] [(5,⟨[(5,false),(6,false)],[],[],[]⟩),(20,⟨[(15,false),(16,false),(17,false),(18,false)],[14,150896,150897],[],[]⟩),(24,⟨[(19,false),(20,false)],[],[14,150896,150897],[]⟩),(41,⟨[(26,false),(28,false)],[],[14,150896,150897],[]⟩)] [] none
def V8 (x:yZI × Int):Prop:=((zeZ x.1)/\((((!(zbU x.1))=true)->((zcj ())/\(((zcD ()):Bool)=(zbt x))))/\(((!(zbU x.1))=false)->Z.LoopP (X:=yZR) ((0,0)) (fun s0 K0=>(((decide ((s0.2:Int)<(x.1.2.2.length:Int))=true)->(((0:Int)<=s0.2/\(s0.2:Int)<(x.1.2.2.length:Int))/\(Z.in64 (s0.1+(((x.1.2.2.getD (yby s0.2) ([],0)).1).length:Int))/\(Z.in64 (s0.2+1)/\(K0 ((s0.1+(((x.1.2.2.getD (yby s0.2) ([],0)).1).length:Int)),(s0.2+1)))))))/\((decide ((s0.2:Int)<(x.1.2.2.length:Int))=false)->(((decide ((7:Int)<s0.1)=true)->((zcj ())/\(((zcD ()):Bool)=(zbt x))))/\((decide ((7:Int)<s0.1)=false)->((zfm x.1)/\((((!(((btK x).2).2==0))=true)->((((((((btK x).1).length:Int)==0)&&(((btK x).2).2==4))=true)->(zcj ()))/\((((((((btK x).1).length:Int)==0)&&(((btK x).2).2==4))&&(zcD ())):Bool)=(zbt x))))/\(((!(((btK x).2).2==0))=false)->((zeC (x.1,(btK x).1))/\(((((((!(((tmK' x).2).2==0))||(!(((tmK' x).2).1==(((btK x).1).length:Int))))||(!((((tmK' x).1).length:Int)==(((btK x).1).length:Int))))||(!(((tmK' x).2).1==s0.1)))=true)->((false:Bool)=(zbt x)))/\((((((!(((tmK' x).2).2==0))||(!(((tmK' x).2).1==(((btK x).1).length:Int))))||(!((((tmK' x).1).length:Int)==(((btK x).1).length:Int))))||(!(((tmK' x).2).1==s0.1)))=false)->Z.LoopP (X:=(Prod Int (Prod Bool (Prod Int (Prod Int (Prod yZN yZN)))))) ((0,true,0,0,([],[]),[],[])) (fun s1 K1=>(((decide ((s1.2.2.2.1:Int)<(x.1.2.2.length:Int))=true)->Z.LoopP (X:=yZR) ((0,0)) (fun s2 K2=>(((decide ((s2.2:Int)<(((tmK' x).1).length:Int))=true)->(((0:Int)<=s2.2/\(s2.2:Int)<(((btK x).1).length:Int))/\(((((((btK x).1).getD (yby s2.2) 0)==s1.2.2.2.1)=true)->(((0:Int)<=s2.2/\(s2.2:Int)<(((tmK' x).1).length:Int))/\(Z.in64 ((((tmK' x).1).getD (yby s2.2) 0)+x.1.1)/\(Z.in64 (s2.2+1)/\(((s1.2.2.2.2.1:yZN)=s1.2.2.2.2.1)/\(((s1.2.2.2.2.2.1:yZJ)=s1.2.2.2.2.2.1)/\(((s1.2.2.2.2.2.2:(List yZM))=s1.2.2.2.2.2.2)/\(K2 (((((tmK' x).1).getD (yby s2.2) 0)+x.1.1),(s2.2+1))))))))))/\((((((btK x).1).getD (yby s2.2) 0)==s1.2.2.2.1)=false)->(Z.in64 (s2.2+1)/\(((s1.2.2.2.2.1:yZN)=s1.2.2.2.2.1)/\(((s1.2.2.2.2.2.1:yZJ)=s1.2.2.2.2.2.1)/\(((s1.2.2.2.2.2.2:(List yZM))=s1.2.2.2.2.2.2)/\(K2 (s2.1,(s2.2+1)))))))))))/\((decide ((s2.2:Int)<(((tmK' x).1).length:Int))=false)->(((0:Int)<=s1.2.2.2.1/\(s1.2.2.2.1:Int)<(x.1.2.2.length:Int))/\(((0:Int)<=s1.2.2.2.1/\(s1.2.2.2.1:Int)<(x.1.2.2.length:Int))/\(Z.in64 ((((x.1.2.2.getD (yby s1.2.2.2.1) ([],0)).1).length:Int) - 1)/\(((0:Int)<=((((x.1.2.2.getD (yby s1.2.2.2.1) ([],0)).1).length:Int) - 1)/\(((((x.1.2.2.getD (yby s1.2.2.2.1) ([],0)).1).length:Int) - 1):Int)<(((x.1.2.2.getD (yby s1.2.2.2.1) ([],0)).1).length:Int))/\(Z.in64 (s2.1+(((x.1.2.2.getD (yby s1.2.2.2.1) ([],0)).1).getD (yby ((((x.1.2.2.getD (yby s1.2.2.2.1) ([],0)).1).length:Int) - 1)) (0,0)).1)/\(Z.in64 (s2.1+(((x.1.2.2.getD (yby s1.2.2.2.1) ([],0)).1).getD (yby ((((x.1.2.2.getD (yby s1.2.2.2.1) ([],0)).1).length:Int) - 1)) (0,0)).2)/\((((0:Int)<=s1.2.2.2.1/\(s1.2.2.2.1:Int)<64)/\Z.in64 (1*2^(yby (s1.2.2.2.1))))/\(Z.roomy 5 ((s1.2.2.2.2.2.1++((yaa 1 (0,(0,0),0,0)).set 0 ((1*2^(yby (s1.2.2.2.1))),(1,1),(s2.1+(((x.1.2.2.getD (yby s1.2.2.2.1) ([],0)).1).getD (yby ((((x.1.2.2.getD (yby s1.2.2.2.1) ([],0)).1).length:Int) - 1)) (0,0)).1),(s2.1+(((x.1.2.2.getD (yby s1.2.2.2.1) ([],0)).1).getD (yby ((((x.1.2.2.getD (yby s1.2.2.2.1) ([],0)).1).length:Int) - 1)) (0,0)).2)))).length:Int)/\(Z.roomy 4 ((s1.2.2.2.2.2.2++((yaa 1 (0,0,0,0)).set 0 (s1.2.2.2.1,1,x.2,1))).length:Int)/\(((decide (((s2.1+(((x.1.2.2.getD (yby s1.2.2.2.1) ([],0)).1).getD (yby ((((x.1.2.2.getD (yby s1.2.2.2.1) ([],0)).1).length:Int) - 1)) (0,0)).2):Int)<=x.2)=true)->((((0:Int)<=s1.2.2.2.1/\(s1.2.2.2.1:Int)<64)/\Z.in64 (1*2^(yby (s1.2.2.2.1))))/\(((0:Int)<=s1.1/\(0:Int)<=(1*2^(yby (s1.2.2.2.1))))/\(Z.in64 (s1.2.2.2.1+1)/\(K1 ((((yby (s1.1)) ||| (yby ((1*2^(yby (s1.2.2.2.1))))):Nat):Int),(s1.2.1&&decide (((s2.1+(((x.1.2.2.getD (yby s1.2.2.2.1) ([],0)).1).getD (yby ((((x.1.2.2.getD (yby s1.2.2.2.1) ([],0)).1).length:Int) - 1)) (0,0)).1):Int)<=x.2)),(max s1.2.2.1 s2.1),(s1.2.2.2.1+1),s1.2.2.2.2.1,(s1.2.2.2.2.2.1++((yaa 1 (0,(0,0),0,0)).set 0 ((1*2^(yby (s1.2.2.2.1))),(1,1),(s2.1+(((x.1.2.2.getD (yby s1.2.2.2.1) ([],0)).1).getD (yby ((((x.1.2.2.getD (yby s1.2.2.2.1) ([],0)).1).length:Int) - 1)) (0,0)).1),(s2.1+(((x.1.2.2.getD (yby s1.2.2.2.1) ([],0)).1).getD (yby ((((x.1.2.2.getD (yby s1.2.2.2.1) ([],0)).1).length:Int) - 1)) (0,0)).2)))),(s1.2.2.2.2.2.2++((yaa 1 (0,0,0,0)).set 0 (s1.2.2.2.1,1,x.2,1)))))))))/\((decide (((s2.1+(((x.1.2.2.getD (yby s1.2.2.2.1) ([],0)).1).getD (yby ((((x.1.2.2.getD (yby s1.2.2.2.1) ([],0)).1).length:Int) - 1)) (0,0)).2):Int)<=x.2)=false)->(Z.in64 (s1.2.2.2.1+1)/\(K1 (s1.1,(s1.2.1&&decide (((s2.1+(((x.1.2.2.getD (yby s1.2.2.2.1) ([],0)).1).getD (yby ((((x.1.2.2.getD (yby s1.2.2.2.1) ([],0)).1).length:Int) - 1)) (0,0)).1):Int)<=x.2)),(max s1.2.2.1 s2.1),(s1.2.2.2.1+1),s1.2.2.2.2.1,(s1.2.2.2.2.2.1++((yaa 1 (0,(0,0),0,0)).set 0 ((1*2^(yby (s1.2.2.2.1))),(1,1),(s2.1+(((x.1.2.2.getD (yby s1.2.2.2.1) ([],0)).1).getD (yby ((((x.1.2.2.getD (yby s1.2.2.2.1) ([],0)).1).length:Int) - 1)) (0,0)).1),(s2.1+(((x.1.2.2.getD (yby s1.2.2.2.1) ([],0)).1).getD (yby ((((x.1.2.2.getD (yby s1.2.2.2.1) ([],0)).1).length:Int) - 1)) (0,0)).2)))),(s1.2.2.2.2.2.2++((yaa 1 (0,0,0,0)).set 0 (s1.2.2.2.1,1,x.2,1)))))))))))))))))))))/\((decide ((s1.2.2.2.1:Int)<(x.1.2.2.length:Int))=false)->((zee (s1.2.2.2.2.2.1,s1.2.2.2.2.2.2))/\((zf (s1.2.2.2.2.2.1,s1.2.2.2.2.2.2))/\((((((((!((zan (s1.2.2.2.2.2.1,s1.2.2.2.2.2.2)).2==0))||(!(((zaE (s1.2.2.2.2.2.1,s1.2.2.2.2.2.2)).2).2==0)))||(!(((zan (s1.2.2.2.2.2.1,s1.2.2.2.2.2.2)).1==2)==decide ((((btK x).2).1:Int)<=x.2))))||(!(((zan (s1.2.2.2.2.2.1,s1.2.2.2.2.2.2)).1==0)==(!s1.2.1))))||(!((zaE (s1.2.2.2.2.2.1,s1.2.2.2.2.2.2)).1==s1.1)))=true)->((false:Bool)=(zbt x)))/\(((((((!((zan (s1.2.2.2.2.2.1,s1.2.2.2.2.2.2)).2==0))||(!(((zaE (s1.2.2.2.2.2.1,s1.2.2.2.2.2.2)).2).2==0)))||(!(((zan (s1.2.2.2.2.2.1,s1.2.2.2.2.2.2)).1==2)==decide ((((btK x).2).1:Int)<=x.2))))||(!(((zan (s1.2.2.2.2.2.1,s1.2.2.2.2.2.2)).1==0)==(!s1.2.1))))||(!((zaE (s1.2.2.2.2.2.1,s1.2.2.2.2.2.2)).1==s1.1)))=false)->Z.LoopP (X:=yZR) ((((zaE (s1.2.2.2.2.2.1,s1.2.2.2.2.2.2)).2).1,0)) (fun s3 K3=>(((decide ((s3.2:Int)<(x.1.2.2.length:Int))=true)->(((0:Int)<=s3.2/\(s3.2:Int)<64)/\(((0:Int)<=(ydy s1.1 (2^(yby (s3.2))))/\(0:Int)<=1)/\(Z.in64 (s3.1 - (((yby ((ydy s1.1 (2^(yby (s3.2)))))) &&& (yby (1)):Nat):Int))/\(Z.in64 (s3.2+1)/\((((s1.2.2.2.2.2.1,s1.2.2.2.2.2.2):yZN)=(s1.2.2.2.2.2.1,s1.2.2.2.2.2.2))/\(((s1.2.2.2.2.2.1:yZJ)=s1.2.2.2.2.2.1)/\(((s1.2.2.2.2.2.2:(List yZM))=s1.2.2.2.2.2.2)/\(K3 ((s3.1 - (((yby ((ydy s1.1 (2^(yby (s3.2)))))) &&& (yby (1)):Nat):Int)),(s3.2+1)))))))))))/\((decide ((s3.2:Int)<(x.1.2.2.length:Int))=false)->((zit (x.1,(btK x).1,x.2))/\(((((!(s3.1==0))||(!((zbT (x.1,(btK x).1,x.2)).2==0)))=true)->((false:Bool)=(zbt x)))/\((((!(s3.1==0))||(!((zbT (x.1,(btK x).1,x.2)).2==0)))=false)->((((((!((zan (s1.2.2.2.2.2.1,s1.2.2.2.2.2.2)).1==2))||((((zbT (x.1,(btK x).1,x.2)).1).1==0)&&(((zbT (x.1,(btK x).1,x.2)).1).2==0)))&&((((zan (s1.2.2.2.2.2.1,s1.2.2.2.2.2.2)).1==2)||decide ((x.2:Int)<s1.2.2.1))||decide ((0:Int)<((zbT (x.1,(btK x).1,x.2)).1).2)))=true)->(zcj ()))/\((((((!((zan (s1.2.2.2.2.2.1,s1.2.2.2.2.2.2)).1==2))||((((zbT (x.1,(btK x).1,x.2)).1).1==0)&&(((zbT (x.1,(btK x).1,x.2)).1).2==0)))&&((((zan (s1.2.2.2.2.2.1,s1.2.2.2.2.2.2)).1==2)||decide ((x.2:Int)<s1.2.2.1))||decide ((0:Int)<((zbT (x.1,(btK x).1,x.2)).1).2)))&&(zcD ())):Bool)=(zbt x))))))))))))))))))))))))))))))
theorem e8 (x:Ds k8.args):vcFun cx8 f8 k8 x=V8 x:=by kernel_rfl
end Go.Tt
