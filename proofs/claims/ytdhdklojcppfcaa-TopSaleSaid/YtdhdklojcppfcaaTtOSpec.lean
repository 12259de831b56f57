/-
  Chapter 10: what each function of the program gives, in plain Lean. No program in sight.
-/
import Derived.Test.YtdhdklojcppfcaaTtPrel
set_option linter.all false
set_option maxRecDepth 100000
set_option linter.unusedVariables false
open Int renaming tdiv->ydu
open List renaming range->yaf,replicate->yaa
namespace Go.Tt
open Go Go.Sx
abbrev Supply:=Int × Span × Span
abbrev Order:=Int × Int × Int × Int
abbrev Sale:=(List Supply) × List Order
abbrev Market:=(List Int) × (List Int) × List Int
abbrev Flow:=(Option Market) × (List (List Int)) × (List Int) × Int
abbrev Truth:=Fun Supply Int × Fun Supply Int × Unit
abbrev topN:Int:=1048576
def supplyB (x:Supply):Bool:=inB x.1 0 255&&(spanB x.2.1 0 topN&&spanB x.2.2 0 topN)
def orderB (o:Order):Bool:=inB o.1 0 7&&(inB o.2.1 0 topN&&(inB o.2.2.1 0 topN&&inB o.2.2.2 0 1000000))
def saleB (s:Sale):Bool:=(decide ((s.1.length:Int)<=8)&&decide ((s.2.length:Int)<=8))&&(s.1.all supplyB&&s.2.all orderB)
def hasB (s n:Int):Bool:=s.toNat.testBit n.toNat
def bitN (b:Bool):Nat:=cond b 1 0
def setN:List Bool->Nat
 | []=>0
 | b::l=>bitN b+2*setN l
def setOf (l:List Bool):Int:=(setN l:Nat)
def touchB (a b:Int):Bool:=!((((a.toNat &&& b.toNat:Nat):Int))==0)
def subB (a b:Int):Bool:=(((a.toNat ^^^ (a.toNat &&& b.toNat):Nat):Int))==0
def setsTo (n:Nat):List Int:=(yaf n).map fun k=>((k:Nat):Int)
def partsV (x:Int):List Int:=(setsTo (x.toNat+1)).filter fun y=>subB y x
def sizeV (x:Int):Int:=(((yaf 8).countP fun k=>hasB x (k:Nat):Nat):Int)
def allV (n:Nat):Int:=2^n - 1
def selS (p:Nat->Bool):List Int->Nat->Int
 | [],_=>0
 | a::l,k=>cond (p k) a 0+selS p l (k+1)
def canB (shades ready:Int) (o:Order):Bool:=hasB shades o.1&&decide (ready<=o.2.2.1)
def marketV (many ready:Supply->Int) (s:Sale):Market:=(s.2.map fun o=>o.2.1,s.1.map many,s.1.map fun x=>setOf (s.2.map (canB x.1 (ready x))))
def worstMany (x:Supply):Int:=x.2.1.1
def worstReady (x:Supply):Int:=x.2.2.2
def bestMany (x:Supply):Int:=x.2.1.2
def bestReady (x:Supply):Int:=x.2.2.1
def worstM (s:Sale):Market:=marketV worstMany worstReady s
def bestM (s:Sale):Market:=marketV bestMany bestReady s
def lackM (m:Market) (X:Int):Int:=selS (fun k=>hasB X (k:Nat)) m.1 0 - selS (fun i=>touchB (m.2.2.getD i 0) X) m.2.1 0
def meetsM (m:Market) (X:Int):Bool:=(partsV X).all fun y=>!decide (0<lackM m y)
def worseB (a b:Int × Int):Bool:=cond (!(a.2==b.2)) (decide (b.2<a.2)) (decide (sizeV a.1<sizeV b.1))
def mostV (L:Int->Int) (l:List Int):Int × Int:=l.foldl (fun b x=>cond (worseB (x,L x) b) (x,L x) b) (0,0)
def amount (n:Int):Prop:=0<=n/\n<=topN
def smallSet (s:Int):Prop:=0<=s/\s<=255
structure MarketOk (m:Market):Prop where
 a8:m.1.length<=8
 m8:m.2.1.length<=8
 len:m.2.2.length=m.2.1.length
 asked:∀ n∈m.1,amount n
 many:∀ n∈m.2.1,amount n
 serves:∀ s∈m.2.2,smallSet s
def mkt (o:Option Market):Market:=o.getD ([],[],[])
def optOk (o:Option Market):Prop:=o.isSome=true/\MarketOk (mkt o)
def zaz (x:Int × Int × Int):Bool:=inB x.1 x.2.1 x.2.2
def zbP (_:Int × Int × Int):Prop:=True
def zbY (x:Span × Int × Int):Bool:=spanB x.1 x.2.1 x.2.2
def zed (_:Span × Int × Int):Prop:=True
def zbQ (x:Supply):Bool:=!supplyB x
def zci (_:Supply):Prop:=True
def zcp (x:Order):Bool:=!orderB x
def zcU (_:Order):Prop:=True
def zar (x:(List Supply) × Fun Supply Bool):Int:=ixF x.2.val x.1 0
def zba (x:(List Supply) × Fun Supply Bool):Prop:=x.1.length<=big/\∀ a∈x.1,x.2.pre a
def zap (x:(List Supply) × Fun Supply Bool):Bool:=x.1.any x.2.val
def zaR (x:(List Supply) × Fun Supply Bool):Prop:=x.1.length<=big/\∀ a∈x.1,x.2.pre a
def zaw (x:(List Order) × Fun Order Bool):Int:=ixF x.2.val x.1 0
def zbh (x:(List Order) × Fun Order Bool):Prop:=x.1.length<=big/\∀ a∈x.1,x.2.pre a
def zaG (x:(List Order) × Fun Order Bool):Bool:=x.1.any x.2.val
def zaY (x:(List Order) × Fun Order Bool):Prop:=x.1.length<=big/\∀ a∈x.1,x.2.pre a
def zbG (x:Sale):Bool:=saleB x
def zdd (_:Sale):Prop:=True
def zbK (x:Unit × Supply):Int:=worstMany x.2
def zcG (_:Unit × Supply):Prop:=True
def zbD (x:Unit × Supply):Int:=worstReady x.2
def zcz (_:Unit × Supply):Prop:=True
def zdB (x:Unit × Supply):Int:=bestMany x.2
def zes (_:Unit × Supply):Prop:=True
def zdl (x:Unit × Supply):Int:=bestReady x.2
def zdS (_:Unit × Supply):Prop:=True
def worstT:Truth:=(⟨fun y=>zcG ((),y),fun y=>zbK ((),y)⟩,⟨fun y=>zcz ((),y),fun y=>zbD ((),y)⟩,())
def bestT:Truth:=(⟨fun y=>zes ((),y),fun y=>zdB ((),y)⟩,⟨fun y=>zdS ((),y),fun y=>zdl ((),y)⟩,())
def zeroT:Truth:=(⟨fun _=>False,fun _=>0⟩,⟨fun _=>False,fun _=>0⟩,())
def fates:List Truth:=((yaa 2 zeroT).set 0 worstT).set 1 bestT
def zaf (x:Sale × Truth):Option Market:=some (marketV x.2.1.val x.2.2.1.val x.1)
def zcT (x:Sale × Truth):Prop:=saleB x.1=true/\(∀ a,x.2.1.pre a)/\∀ a,x.2.2.1.pre a
def zaX (x:Int):Int:=x
def zbi (_:Int):Prop:=True
def zai (x:Int × Int):Bool:=hasB x.1 x.2
def zaH (x:Int × Int):Prop:=0<=x.1/\0<=x.2/\x.2<64
def zaL (x:Int × (Int->Option Bool)):Bool:=(x.2 x.1).getD false
def zaJ (_:Int × (Int->Option Bool)):Prop:=True
def zaO (x:(List Int) × Fun Int Bool × Fun Int Int):Int:=selS (fun k=>x.2.1.val (k:Nat)) (x.1.map x.2.2.val) 0
def zbX (x:(List Int) × Fun Int Bool × Fun Int Int):Prop:=x.1.length<=8/\(∀ k:Int,0<=k->k<8->x.2.1.pre k)/\∀ a∈x.1,x.2.2.pre a/\amount (x.2.2.val a)
def zaM (x:(Option Market) × Int):Int:=lackM (mkt x.1) x.2
def zco (x:(Option Market) × Int):Prop:=optOk x.1/\smallSet x.2
def zaD (x:Option Market):Int:=allV (mkt x).1.length
def zcH (x:Option Market):Prop:=optOk x
def zbe (x:Int):List Int:=partsV x
def zdm (x:Int):Prop:=smallSet x
def zbE (x:Int):Sx.Seq Int:=⟨smallSet x,partsV x⟩
def zcS (_:Int):Prop:=True
def zaU (x:(Option Market) × Int):Bool:=meetsM (mkt x.1) x.2
def zdn (x:(Option Market) × Int):Prop:=optOk x.1/\smallSet x.2
def zca (x:Int):Int:=sizeV x
def zcC (x:Int):Prop:=smallSet x
def zdi (_:Int):Int:=0
def zcD (_:Int):Prop:=False
def zbJ (x:Int):Int:=sizeV x
def zdh (x:Int):Prop:=smallSet x
def zdc (x:Int):Int:=sizeV x
def zdk (x:Int):Prop:=smallSet x
def zbL (x:(Int × Int) × Int × Int):Bool:=worseB x.1 x.2
def zdR (x:(Int × Int) × Int × Int):Prop:=smallSet x.1.1/\smallSet x.2.1
def zaE (x:Sale):Int × Int:=cond (saleB x) (cond (meetsM (worstM x) (allV x.2.length)) (2,0) (cond (meetsM (bestM x) (allV x.2.length)) (1,0) (0,0))) (0,1)
def zeH (_:Sale):Prop:=True
def zao (x:Sale):Int × Int × Int:=cond (saleB x) (cond (mostV (lackM (worstM x)) (partsV (allV x.2.length))==(0,0)) (0,0,4) ((mostV (lackM (worstM x)) (partsV (allV x.2.length))).1,(mostV (lackM (worstM x)) (partsV (allV x.2.length))).2,0)) (0,0,1)
def zhm (_:Sale):Prop:=True
def getG (g:List (List Int)) (i k:Int):Int:=(g.getD i.toNat (yaa 8 0)).getD k.toNat 0
def setG (g:List (List Int)) (i k v:Int):List (List Int):=g.set i.toNat ((g.getD i.toNat (yaa 8 0)).set k.toNat v)
def rowS (g:List (List Int)) (i:Int) (n:Nat):Int:=((yaf n).map fun k=>getG g i (k:Nat)).sum
def colS (g:List (List Int)) (k:Int) (n:Nat):Int:=((yaf n).map fun i=>getG g (i:Nat) k).sum
def leftV (f:Flow) (i:Int):Int:=(mkt f.1).2.1.getD i.toNat 0 - rowS f.2.1 i 8
def lackingV (f:Flow) (k:Int):Int:=(mkt f.1).1.getD k.toNat 0 - colS f.2.1 k (mkt f.1).2.1.length
def markV (f:Flow) (k:Int):Flow:=(f.1,f.2.1,f.2.2.1,((f.2.2.2.toNat ||| (1*2^k.toNat:Int).toNat:Nat):Int))
def skipV (f:Flow) (i k:Int):Bool:=(hasB f.2.2.2 k||!hasB ((mkt f.1).2.2.getD i.toNat 0) k)||hasB (f.2.2.1.getD i.toNat 0) k
abbrev Push:=Flow->Int->Int->Int × Flow
def fromL (P:Push) (i k most:Int):List Int->Int->Flow->Int × Flow
 | [],n,f=>(n,f)
 | j::l,n,f=>cond (n==0)
  (cond ((!(j==i)&&decide (0<min most (getG f.2.1 j k)))&&!hasB (f.2.2.1.getD j.toNat 0) k)
   (cond (decide (0<(P f j (min most (getG f.2.1 j k))).1))
    (fromL P i k most l (P f j (min most (getG f.2.1 j k))).1 ((P f j (min most (getG f.2.1 j k))).2.1,setG (P f j (min most (getG f.2.1 j k))).2.2.1 j k (getG (P f j (min most (getG f.2.1 j k))).2.2.1 j k - (P f j (min most (getG f.2.1 j k))).1),(P f j (min most (getG f.2.1 j k))).2.2.2))
    (fromL P i k most l (P f j (min most (getG f.2.1 j k))).1 (P f j (min most (getG f.2.1 j k))).2))
   (fromL P i k most l n f)) (n,f)
def idx (n:Nat):List Int:=(yaf n).map fun k=>((k:Nat):Int)
def tryK (P:Push) (f:Flow) (i most k:Int):Int × Flow:=fromL P i k most (idx (mkt f.1).2.1.length) (min most (lackingV (markV f k) k)) (markV f k)
def pushL (P:Push) (i most:Int):List Int->Flow->Int × Flow
 | [],f=>(0,f)
 | k::l,f=>cond (skipV f i k) (pushL P i most l f)
  (cond (decide (0<(tryK P f i most k).1))
   ((tryK P f i most k).1,(tryK P f i most k).2.1,setG (tryK P f i most k).2.2.1 i k (getG (tryK P f i most k).2.2.1 i k+(tryK P f i most k).1),(tryK P f i most k).2.2.2)
   (pushL P i most l (tryK P f i most k).2))
def pushN:Nat->Push
 | 0,f,_,_=>(0,f)
 | n+1,f,i,most=>pushL (pushN n) i most (idx (mkt f.1).1.length) f
def unseen (f:Flow):Nat:=(yaf (mkt f.1).1.length).countP fun k=>!hasB f.2.2.2 (k:Nat)
def pushV (f:Flow) (i most:Int):Int × Flow:=pushN (unseen f+1) f i most
def drain:Nat->Flow->Int->Flow
 | 0,f,_=>f
 | n+1,f,i=>cond (decide (0<leftV f i)) (cond ((pushV (f.1,f.2.1,f.2.2.1,0) i (leftV f i)).1==0) (pushV (f.1,f.2.1,f.2.2.1,0) i (leftV f i)).2 (drain n (pushV (f.1,f.2.1,f.2.2.1,0) i (leftV f i)).2 i)) f
def fillL:List Int->Flow->Flow
 | [],f=>f
 | i::l,f=>fillL l (drain (leftV f i).toNat f i)
def fillV (f:Flow):Flow:=fillL (idx (mkt f.1).2.1.length) f
def totalV (f:Flow):Int:=((idx (mkt f.1).2.1.length).map fun i=>(mkt f.1).2.1.getD i.toNat 0 - leftV f i).sum
def zeros:List (List Int):=yaa 8 (yaa 8 0)
def lessV (m:Market) (i k n:Int):Market:=(m.1.set k.toNat (m.1.getD k.toNat 0 - n),m.2.1.set i.toNat (m.2.1.getD i.toNat 0 - n),m.2.2)
def leastV (m:Market) (closed:List Int) (i k n:Int):Flow:=fillV (some (lessV m i k n),zeros,closed,0)
def bisV (P:Int->Bool):Nat->Int->Int->Int
 | 0,low,_=>low
 | n+1,low,high=>cond (decide (low<high)) (cond (P (ydu (low+high+1) 2)) (bisV P n (ydu (low+high+1) 2) high) (bisV P n low (ydu (low+high+1) 2 - 1))) low
def mostOf (m:Market) (closed:List Int) (i k:Int):Int :=
 bisV (fun n=>n+totalV (leastV m closed i k n)==totalV (leastV m closed i k 0)) (min (m.2.1.getD i.toNat 0) (m.1.getD k.toNat 0)).toNat 0 (min (m.2.1.getD i.toNat 0) (m.1.getD k.toNat 0))
def shareK (i:Int):List Int->List Int->Market->List Int->List Int × Market × List Int
 | [],l,m,c=>(l,m,c)
 | k::r,l,m,c=>cond (hasB (m.2.2.getD i.toNat 0) k)
  (shareK i r (l.set k.toNat (mostOf m c i k)) (lessV m i k (mostOf m c i k)) (c.set i.toNat (((c.getD i.toNat 0).toNat ||| (1*2^k.toNat:Int).toNat:Nat):Int)))
  (shareK i r l m c)
def shareI (n:Nat):List Int->Market->List Int->List (List Int)
 | [],_,_=>[]
 | i::r,m,c=>(shareK i (idx n) (yaa n 0) m c).1::shareI n r (shareK i (idx n) (yaa n 0) m c).2.1 (shareK i (idx n) (yaa n 0) m c).2.2
def shareV (m:Market):List (List Int):=shareI m.1.length (idx m.2.1.length) m (yaa 8 0)
structure FlowOk (f:Flow):Prop where
 mo:optOk f.1
 g8:f.2.1.length=8
 r8:∀ r∈f.2.1,r.length=8
 c8:f.2.2.1.length=8
 cs:∀ s∈f.2.2.1,smallSet s
 seen:smallSet f.2.2.2
 pos:∀ i k:Nat,0<=getG f.2.1 (i:Nat) (k:Nat)
 can:∀ i k:Nat,0<getG f.2.1 (i:Nat) (k:Nat)->i<(mkt f.1).2.1.length/\k<(mkt f.1).1.length/\hasB ((mkt f.1).2.2.getD i 0) (k:Nat)=true/\hasB (f.2.2.1.getD i 0) (k:Nat)=false
 row:∀ i:Nat,i<(mkt f.1).2.1.length->rowS f.2.1 (i:Nat) 8<=(mkt f.1).2.1.getD i 0
 col:∀ k:Nat,k<(mkt f.1).1.length->colS f.2.1 (k:Nat) (mkt f.1).2.1.length<=(mkt f.1).1.getD k 0
def zax (x:Flow × Int):Int:=leftV x.1 x.2
def zcj (x:Flow × Int):Prop:=FlowOk x.1/\0<=x.2/\x.2<((mkt x.1.1).2.1.length:Int)
def zcJ (x:Flow × Int):Int:=lackingV x.1 x.2
def zdo (x:Flow × Int):Prop:=FlowOk x.1/\0<=x.2/\x.2<((mkt x.1.1).1.length:Int)
def zab (x:Flow × Int × Int):Int × Flow:=pushV x.1 x.2.1 x.2.2
def zcV (x:Flow × Int × Int):Prop:=FlowOk x.1/\(0<=x.2.1/\x.2.1<((mkt x.1.1).2.1.length:Int))/\0<x.2.2/\x.2.2<=topN
def m195 (x:Flow × Int × Int):Nat:=unseen x.1
def zgM (x y:Flow × Int × Int):Prop:=zcV y/\m195 y<m195 x
def zas (x:Flow):Flow:=fillV x
def zck (x:Flow):Prop:=FlowOk x
def zbn (x:Flow):Int:=totalV x
def zcI (x:Flow):Prop:=FlowOk x
def za (x:List Int):List Int:=x
def zah (x:List Int):Prop:=x.length<=1000
def zeX (x:Flow × Int × Int × Int):Flow:=leastV (mkt x.1.1) x.1.2.2.1 x.2.1 x.2.2.1 x.2.2.2
def zgj (x:Flow × Int × Int × Int):Prop:=(x.1.1.isSome=true/\MarketOk (mkt x.1.1)/\x.1.2.2.1.length=8/\∀ s∈x.1.2.2.1,smallSet s)/\(0<=x.2.1/\x.2.1<((mkt x.1.1).2.1.length:Int))/\(0<=x.2.2.1/\x.2.2.1<((mkt x.1.1).1.length:Int))/\0<=x.2.2.2/\x.2.2.2<=(mkt x.1.1).2.1.getD x.2.1.toNat 0/\x.2.2.2<=(mkt x.1.1).1.getD x.2.2.1.toNat 0
def zau (x:Sale):(List (List Int)) × Int:=cond (saleB x) (shareV (worstM x),0) ([],1)
def zgk (_:Sale):Prop:=True
end Go.Tt
