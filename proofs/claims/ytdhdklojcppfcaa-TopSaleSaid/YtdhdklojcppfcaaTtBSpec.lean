/-
  Box: what each function gives. No program in sight.
-/
import Derived.Test.YtdhdklojcppfcaaTtSSpec
set_option linter.all false
set_option maxRecDepth 100000
set_option linter.unusedVariables false
open Int renaming toNat->yby
open List renaming range->yaf,replicate->yaa
namespace Go.Tt
open Go Go.Sx
abbrev Pile:=Int × Int
abbrev Stock:=Int->Option Int
abbrev most40:Int:=1099511627776
def needB (n:Int):Bool:=inB n 0 48
def pileB (n:Nat) (p:Pile):Bool:=inB p.1 0 (allV n)&&inB p.2 0 topN
def maxV:List Int->Int
 | []=>0
 | a::l=>l.foldl max a
def boxB (need:List Int) (l:List Pile):Bool:=(((inB (need.length:Int) 1 8&&decide ((l.length:Int)<=8))&&need.all needB)&&l.all (pileB need.length))&&decide (0<maxV need)
structure BoxOk (need:List Int) (l:List Pile):Prop where
 n8:need.length<=8
 l8:l.length<=8
 need:∀ n∈need,0<=n/\n<=most40
 pile:∀ p∈l,smallSet p.1/\amount p.2
def sumV (s:Int) (l:List Int):Int:=selS (fun k=>hasB s (k:Nat)) l 0
def haveV:List Pile->Int->Int
 | [],_=>0
 | p::l,s=>cond (touchB s p.1) p.2 0+haveV l s
def setsV (n:Nat):List Int:=(yaf (2^n - 1)).map fun k=>((k+1:Nat):Int)
def stockV (k:Stock) (s:Int):Int:=((yaf 256).map fun t=>cond (touchB s (t:Nat)) ((k (t:Nat)).getD 0) 0).sum
def putV (k:Stock) (p:Pile):Stock:=@Z.mput Int Int (fun a b=>a==b) k p.1 ((k p.1).getD 0+p.2)
def newV (l:List Pile):Stock:=l.foldl putV fun _=>none
structure StockOk (k:Stock):Prop where
 key:∀ t v,k t=some v->smallSet t
 val:∀ t v,k t=some v->0<=v/\v<=1073741824
def worstV (d:Int->Int) (l:List Int):Int × Int:=l.foldl (fun b s=>cond (decide (b.2<d s)) (s,d s) b) (0,0)
def lacksV (need:List Int) (l:List Pile) (s:Int):Int:=sumV s need - haveV l s
def lackB (need:List Int) (l:List Pile):Int × Int:=worstV (lacksV need l) (setsV need.length)
def timesV (need:List Int) (n:Int):List Int:=need.map fun x=>x*n
def canF (need:List Int) (l:List Pile):Bool:=(lackB need l).2==0
def zbr (x:Int × Int × Int):Bool:=inB x.1 x.2.1 x.2.2
def zcE (_:Int × Int × Int):Prop:=True
def zcn (x:Int):Bool:=!needB x
def zbM (_:Int):Prop:=True
def zcN (x:Pile × List Int):Bool:=!pileB x.2.length x.1
def zcv (x:Pile × List Int):Prop:=x.2.length<=8
def zbg (x:(List Int) × Fun Int Bool):Int:=ixF x.2.val x.1 0
def zbU (x:(List Int) × Fun Int Bool):Prop:=x.1.length<=big/\∀ a∈x.1,x.2.pre a
def zaF (x:(List Int) × Fun Int Bool):Bool:=x.1.any x.2.val
def zbF (x:(List Int) × Fun Int Bool):Prop:=x.1.length<=big/\∀ a∈x.1,x.2.pre a
def zaC (x:(List Pile) × Fun Pile Bool):Int:=ixF x.2.val x.1 0
def zbo (x:(List Pile) × Fun Pile Bool):Prop:=x.1.length<=big/\∀ a∈x.1,x.2.pre a
def zav (x:(List Pile) × Fun Pile Bool):Bool:=x.1.any x.2.val
def zbf (x:(List Pile) × Fun Pile Bool):Prop:=x.1.length<=big/\∀ a∈x.1,x.2.pre a
def zcx (x:List Int):Int:=maxV x
def zdf (x:List Int):Prop:=1<=x.length/\x.length<=big
def zd (x:(List Int) × List Pile):Bool:=boxB x.1 x.2
def zeW (_:(List Int) × List Pile):Prop:=True
def zcZ (x:Int × Int):Bool:=hasB x.1 x.2
def zeU (x:Int × Int):Prop:=0<=x.1/\0<=x.2/\x.2<64
def zbB (x:Int × List Int):Int:=sumV x.1 x.2
def zeT (x:Int × List Int):Prop:=0<=x.1/\x.2.length<=8/\∀ n∈x.2,0<=n/\n<=most40
def zcm (x:Int × Int):Bool:=touchB x.1 x.2
def zdN (x:Int × Int):Prop:=0<=x.1/\0<=x.2
def zcY (x:Int):List Int:=setsV x.toNat
def zeS (x:Int):Prop:=0<=x/\x<=8
def zdY (x:Int):Sx.Seq Int:=⟨0<=x/\x<=8,setsV x.toNat⟩
def zh (_:Int):Prop:=True
def zaQ (l:List Pile):Stock:=newV l
def zef (l:List Pile):Prop:=l.length<=8/\∀ p∈l,smallSet p.1/\amount p.2
def zbj (x:Stock × Int):Int:=stockV x.1 x.2
def zee (x:Stock × Int):Prop:=StockOk x.1/\smallSet x.2
def zbb (x:Sx.Seq Int):List Int:=x.2
def zcA (x:Sx.Seq Int):Prop:=x.1/\x.2.length<=big
def zce (x:Stock × (List Int) × List Int):Int × Int:=worstV (fun s=>sumV s x.2.1 - stockV x.1 s) x.2.2
def zez (x:Stock × (List Int) × List Int):Prop:=StockOk x.1/\(x.2.1.length<=8/\∀ n∈x.2.1,0<=n/\n<=most40)/\x.2.2.length<=big/\∀ s∈x.2.2,smallSet s
def zeV (x:(List Int) × List Pile):Int × Int:=lackB x.1 x.2
def zha (x:(List Int) × List Pile):Prop:=BoxOk x.1 x.2
def zac (x:List Pile):List Pile:=x
def zaT (x:List Pile):Prop:=x.length<=big
def zaN (x:(List Int) × Int):List Int:=timesV x.1 x.2
def zdM (x:(List Int) × Int):Prop:=x.1.length<=8/\(∀ n∈x.1,0<=n/\n<=48)/\0<=x.2/\x.2<=8388609
def box_can (x:(List Int) × List Pile):Bool:=canF x.1 x.2
def zgw (x:(List Int) × List Pile):Prop:=BoxOk x.1 x.2
def zbS (x:Int × Fun Int Bool):Bool:=!x.2.val (x.1+1)
def zcf (x:Int × Fun Int Bool):Prop:=(0<=x.1/\x.1<=most40)/\x.2.pre (x.1+1)
def greatV (n:Int) (p:Int->Bool):Int:=srch (fun k=>!p (k+1)) n.toNat 0 n
def zcw (x:Int × Fun Int Bool):Int:=greatV x.1 x.2.val
def zby (x:Int × Fun Int Bool):Prop:=(0<=x.1/\x.1<=most40)/\∀ i,1<=i->i<=x.1->x.2.pre i
def zhb (x:Int × (List Int) × List Pile):Bool:=canF (timesV x.2.1 x.1) x.2.2
def zgx (x:Int × (List Int) × List Pile):Prop:=boxB x.2.1 x.2.2=true/\0<=x.1/\x.1<=8388608
abbrev mostF (need:List Int) (l:List Pile):Fun Int Bool:=⟨fun n=>zgx (n,need,l),fun n=>zhb (n,need,l)⟩
abbrev mostB (x:(List Int) × List Pile):Int:=zcw (8388608,mostF x.1 x.2)
def proofV (d:Int->Int) (b:Int):List Int->Int × Int × Int
 | []=>(0,0,4)
 | s::r=>cond (decide (0<d s)) (b,s,0) (proofV d b r)
def zbC (x:(List Int) × List Pile):Int × Int × Int:=cond (boxB x.1 x.2) (proofV (lacksV (timesV x.1 (mostB x+1)) x.2) (mostB x) (setsV x.1.length)) (0,0,1)
def zkc (_:(List Int) × List Pile):Prop:=True
def zam (x:(List Int) × (List Pile) × Int):Int:=cond (boxB x.1 x.2.1) (cond (inB x.2.2 0 topN) 0 2) 1
def zfQ (_:(List Int) × (List Pile) × Int):Prop:=True
def zbp (x:(List Int) × (List Pile) × Int):Int × Int × Int:=cond (zam x==0) (cond ((lackB (timesV x.1 x.2.2) x.2.1).2==0) (0,0,4) ((lackB (timesV x.1 x.2.2) x.2.1).1,(lackB (timesV x.1 x.2.2) x.2.1).2,0)) (0,0,zam x)
def zhc (_:(List Int) × (List Pile) × Int):Prop:=True
abbrev noP:Pile:=(0,0)
def zhd (x:Int × (List Int) × Int × List Pile):Bool:=canF (x.2.1.set x.2.2.1.toNat 0) (x.2.2.2.set 0 ((x.2.2.2.getD 0 noP).1,(x.2.2.2.getD 0 noP).2 - x.1))
def zgy (x:Int × (List Int) × Int × List Pile):Prop:=BoxOk x.2.1 x.2.2.2/\(0<=x.2.2.1/\x.2.2.1<(x.2.1.length:Int))/\1<=x.2.2.2.length/\0<=x.1/\x.1<=(x.2.2.2.getD 0 noP).2
abbrev ownF (left:List Int) (k:Int) (rest:List Pile):Fun Int Bool:=⟨fun n=>zgy (n,left,k,rest),fun n=>zhd (n,left,k,rest)⟩
abbrev offS (s k:Int):Int:=((s.toNat ^^^ (s.toNat &&& (1*2^k.toNat:Int).toNat):Nat):Int)
abbrev zRow:List Int:=yaa 8 0
abbrev sold0:List (List Int):=yaa 8 zRow
abbrev FillS:=(List (List Int)) × (List Int) × List Pile
abbrev offP' (k:Int) (r:List Pile):List Pile:=r.set (yby 0) (offS (r.getD (yby 0) noP).1 k,(r.getD (yby 0) noP).2)
abbrev numF (left:List Int) (k:Int) (r:List Pile):Int:=zcw (min (r.getD (yby 0) noP).2 (left.getD k.toNat 0),ownF left k r)
abbrev takeP (n:Int) (r:List Pile):List Pile:=r.set (yby 0) ((r.getD (yby 0) noP).1,(r.getD (yby 0) noP).2 - n)
abbrev sellS (s:List (List Int)) (i k n:Int):List (List Int):=s.set i.toNat ((s.getD i.toNat zRow).set k.toNat n)
abbrev fillTo (i k:Int) (s:FillS) (r:List Pile):FillS:=(sellS s.1 i k (numF s.2.1 k r),s.2.1.set k.toNat (s.2.1.getD k.toNat 0 - numF s.2.1 k r),takeP (numF s.2.1 k r) r)
def fillStep (i k:Int) (s:FillS):FillS:=cond (hasB (s.2.2.getD (yby 0) noP).1 k) (fillTo i k s (offP' k s.2.2)) s
def fillRow (i:Int) (n:Nat) (s:FillS):FillS:=(yaf n).foldl (fun s k=>fillStep i (k:Nat) s) s
def packV (need:List Int) (l:List Pile) (m:Nat) (s:(List (List Int)) × List Int):(List (List Int)) × List Int :=
 (yaf m).foldl (fun s i=>((fillRow (i:Nat) need.length (s.1,s.2,l.drop i)).1,(fillRow (i:Nat) need.length (s.1,s.2,l.drop i)).2.1)) s
def fillAll (x:(List Int) × (List Pile) × Int):List (List Int):=(packV x.1 x.2.1 x.2.1.length (sold0,timesV x.1 x.2.2)).1
def zbq (x:(List Int) × (List Pile) × Int):(List (List Int)) × Int:=cond (zam x==0) (cond (canF (timesV x.1 x.2.2) x.2.1) ((yaf x.2.1.length).map fun i=>((fillAll x).getD i zRow).take x.1.length,0) ([],10)) ([],zam x)
def zkd (_:(List Int) × (List Pile) × Int):Prop:=True
end Go.Tt
