/-
  Sack, its law and the reference of shade: what each function gives. No program in sight.
-/
import Derived.Test.YtdhdklojcppfcaaTtSP3
import Derived.Test.YtdhdklojcppfcaaTtMix
import Derived.Test.YtdhdklojcppfcaaProg
set_option linter.all false
set_option maxRecDepth 100000
open Int renaming tdiv->ydv,tmod->ydA,toNat->yby
open List renaming replicate->yaa
open Go.Proofs.Try
namespace Go.Tt
open Go Go.Sx
abbrev SackS:=Span × Span × Span
abbrev TakeS:=Int × Span
abbrev StaS:=Int × Int × Int
abbrev StoS:=SackS × Span
abbrev BatS:=Int->Option StoS
abbrev big47:Nat:=140737488355328
abbrev zSa:SackS:=((0,0),(0,0),0,0)
abbrev zTa:TakeS:=(0,0,0)
abbrev zSt:StoS:=(((0,0),(0,0),0,0),0,0)
def sackB (s:SackS):Bool:=spanB s.1 0 900&&(spanB s.2.1 0 1000&&spanB s.2.2 0 900)
def sacksB (l:List SackS):Bool:=decide ((l.length:Int)<=8)&&l.all sackB
def takeB (n:Int) (t:TakeS):Bool:=inB t.1 0 (n - 1)&&spanB t.2 1 100000
def batchB (l:List SackS) (b:List TakeS):Bool:=inB (b.length:Int) 1 8&&b.all (takeB (l.length:Int))
structure StaOk (s:StaS):Prop where
 w:0<=s.1/\s.1<=900
 c:0<=s.2.1/\s.2.1<=1000
 n:0<=s.2.2/\s.2.2<=900
def dryV (s:StaS):Int:=1000 - s.1
def coalV (s:StaS):Int:=dryV s*s.2.1*1000
def smokeV (s:StaS):Int:=dryV s*(1000 - s.2.1)*s.2.2
def bakedV (s:StaS):Int:=dryV s*(1000 - s.2.1)*(1000 - s.2.2)
def leadV (s:StaS):Int:=coalV s+bakedV s
def dropsV (s:StaS):Int:=s.1*1000*1000
def overV (n:Int) (s:StaS):Int:=1000*coalV s - n*leadV s
abbrev most12:Int:=1000000000000
structure StoOk (x:StoS):Prop where
 sack:sackB x.1=true
 wt:(0<=x.2.1/\x.2.1<=x.2.2)/\x.2.2<=800000
structure BatOk (b:BatS):Prop where
 key:∀ t v,b t=some v->0<=t/\t<8
 val:∀ t v,b t=some v->StoOk v
def FunOk (F:Fun StaS Int):Prop:=∀ s,StaOk s->F.pre s/\-most12<=F.val s/\F.val s<=most12
def endS (s:Span) (k:Nat):Int:=cond (k==0) s.1 s.2
def corN (x:SackS) (i:Nat):StaS:=(endS x.1 (i / 4),endS x.2.1 (i / 2 % 2),endS x.2.2 (i % 2))
def corS (x:StoS):List StaS:=(List.range 8).map (corN x.1)
def lowV (w:Span) (n:Int):Int:=min (w.1*n) (w.2*n)
def higV (w:Span) (n:Int):Int:=max (w.1*n) (w.2*n)
def addS (w:Span) (s:Span × Bool) (n:Int):Span × Bool:=cond s.2 ((min (lowV w n) (lowV w n),max (higV w n) (higV w n)),false) ((min s.1.1 (lowV w n),max s.1.2 (higV w n)),s.2)
def addsV (w:Span) (l:List Int):Span:=(l.foldl (addS w) ((0,0),true)).1
def partS (b:BatS) (F:StaS->Int) (k:Nat):Span:=match b (k:Nat) with
 | none=>(0,0)
 | some s=>addsV s.2 ((corS s).map F)
def sumS (b:BatS) (F:StaS->Int):Span:=(sumN 8 fun k=>(partS b F k).1,sumN 8 fun k=>(partS b F k).2)
def putK (l:List SackS) (k:BatS) (t:TakeS):BatS:=@Z.mput Int StoS (fun a b=>a==b) k t.1 (l.getD t.1.toNat zSa,((k t.1).getD zSt).2.1+t.2.1,((k t.1).getD zSt).2.2+t.2.2)
def newK (l:List SackS) (b:List TakeS):BatS:=b.foldl (putK l) fun _=>none
def zcu (x:Int × Int × Int):Bool:=inB x.1 x.2.1 x.2.2
def zdG (_:Int × Int × Int):Prop:=True
def zbs (x:Span × Int × Int):Bool:=spanB x.1 x.2.1 x.2.2
def zcl (_:Span × Int × Int):Prop:=True
def zcn (x:SackS):Bool:=!sackB x
def zcm (_:SackS):Prop:=True
def zat (x:(List SackS) × Fun SackS Bool):Int:=ixF x.2.val x.1 0
def zbe (x:(List SackS) × Fun SackS Bool):Prop:=x.1.length<=big/\∀ a∈x.1,x.2.pre a
def zaA (x:(List SackS) × Fun SackS Bool):Bool:=x.1.any x.2.val
def zaV (x:(List SackS) × Fun SackS Bool):Prop:=x.1.length<=big/\∀ a∈x.1,x.2.pre a
def zaO (x:List SackS):Bool:=sacksB x
def zcY (_:List SackS):Prop:=True
def zcA (x:TakeS × List SackS):Bool:=!takeB (x.2.length:Int) x.1
def zcx (x:TakeS × List SackS):Prop:=x.2.length<=8
def zas (x:(List TakeS) × Fun TakeS Bool):Int:=ixF x.2.val x.1 0
def zbd (x:(List TakeS) × Fun TakeS Bool):Prop:=x.1.length<=big/\∀ a∈x.1,x.2.pre a
def zaz (x:(List TakeS) × Fun TakeS Bool):Bool:=x.1.any x.2.val
def zaU (x:(List TakeS) × Fun TakeS Bool):Prop:=x.1.length<=big/\∀ a∈x.1,x.2.pre a
def zbq (x:(List SackS) × List TakeS):Bool:=batchB x.1 x.2
def zds (x:(List SackS) × List TakeS):Prop:=x.1.length<=8
def zaD (x:StaS):Int:=dryV x
def zbV (x:StaS):Prop:=StaOk x
def zaX (x:StaS):Int:=coalV x
def zbO (x:StaS):Prop:=StaOk x
def zcK (x:StaS):Int:=dropsV x
def zdj (x:StaS):Prop:=StaOk x
def zcJ (x:StaS):Int:=smokeV x
def zdi (x:StaS):Prop:=StaOk x
def zbw (x:StaS):Int:=bakedV x
def zck (x:StaS):Prop:=StaOk x
def zbo (x:StaS):Int:=leadV x
def zcw (x:StaS):Prop:=StaOk x
def zcV (x:StaS × Int):Int:=overV x.2 x.1
def zdw (x:StaS × Int):Prop:=StaOk x.1/\0<=x.2/\x.2<=1000
def zbu (x:StaS × Int):Int:=overV x.2 x.1
def zbB (x:StaS × Int):Prop:=StaOk x.1/\0<=x.2/\x.2<=1000
def zaJ (x:StoS):List StaS:=corS x
def zbA (_:StoS):Prop:=True
def zbN (x:StoS):Sx.Seq StaS:=⟨True,corS x⟩
def zcU (_:StoS):Prop:=True
def zaC (x:StoS × Fun StaS Int):Span:=addsV x.1.2 ((corS x.1).map x.2.val)
def zcv (x:StoS × Fun StaS Int):Prop:=StoOk x.1/\FunOk x.2
def zbS (x:BatS × Fun StaS Int):Span:=sumS x.1 x.2.val
def zcL (x:BatS × Fun StaS Int):Prop:=BatOk x.1/\FunOk x.2
def zbP (x:BatS × Int):Span:=sumS x.1 (overV x.2)
def zcb (x:BatS × Int):Prop:=BatOk x.1/\0<=x.2/\x.2<=1000
def zec (x:Int × BatS):Bool:=decide ((sumS x.2 (overV x.1)).1<0)
def zeb (x:Int × BatS):Prop:=BatOk x.2/\0<=x.1/\x.1<=1000
def zea (x:Int × BatS):Bool:=decide ((sumS x.2 (overV x.1)).2<=0)
def ze (x:Int × BatS):Prop:=BatOk x.2/\0<=x.1/\x.1<=1000
def zbt (x:Int × Int):Int:=x.1 / x.2
def zcX (x:Int × Int):Prop:=(1<=x.2/\x.2<=1000000000)/\-9000000000000000000<=x.1/\x.1<=9000000000000000000
def zdH (x:Int × Int):Int:=-((-x.1) / x.2)
def zeU (x:Int × Int):Prop:=(1<=x.2/\x.2<=1000000000)/\-9000000000000000000<=x.1/\x.1<=9000000000000000000
def zaG (x:(List SackS) × List TakeS):BatS:=newK x.1 x.2
def zcW (x:(List SackS) × List TakeS):Prop:=sacksB x.1=true/\batchB x.1 x.2=true
abbrev zFun:Fun StaS Int:=⟨fun _=>False,fun _=>0⟩
abbrev fun5:List (Fun StaS Int):=(((((yaa 5 zFun).set 0 ⟨zdj,zcK⟩).set 1 ⟨zbO,zaX⟩).set 2 ⟨zdi,zcJ⟩).set 3 ⟨zck,zbw⟩).set 4 ⟨zcw,zbo⟩
abbrev sum5 (x:(List SackS) × List TakeS) (i:Int):Span:=zbS (zaG (x.1,x.2),fun5.getD i.toNat zFun)
abbrev prt5 (x:(List SackS) × List TakeS) (i:Int):Span:=(zbt ((sum5 x i).1,1000000000),zdH ((sum5 x i).2,1000000000))
abbrev PartsS:=Span × Span × Span × Span × Span
def zcd (x:(List SackS) × List TakeS):PartsS × Int:=cond (sacksB x.1&&batchB x.1 x.2) ((prt5 x 0,prt5 x 1,prt5 x 2,prt5 x 3,prt5 x 4),0) (((0,0),(0,0),(0,0),(0,0),0,0),1)
def zfC (_:(List SackS) × List TakeS):Prop:=True
abbrev lessF (b:BatS):Fun Int Bool:=⟨fun n=>zeb (n,b),fun n=>zec (n,b)⟩
abbrev mostG (b:BatS):Fun Int Bool:=⟨fun n=>ze (n,b),fun n=>zea (n,b)⟩
def zbp (x:(List SackS) × List TakeS):Span × Int:=cond (sacksB x.1&&batchB x.1 x.2) ((zaH (1001,lessF (zaG (x.1,x.2))) - 1,zaH (1000,mostG (zaG (x.1,x.2)))),0) ((0,0),1)
def zdZ (_:(List SackS) × List TakeS):Prop:=True
def zaq (x:Span × Int × Int):Bool:=spanB x.1 x.2.1 x.2.2
def zco (_:Span × Int × Int):Prop:=True
def zcG (x:Int × Int × Int):Bool:=inB x.1 x.2.1 x.2.2
def zeJ (_:Int × Int × Int):Prop:=True
def zaY (x:Int × Int × Int):Bool:=inB x.1 x.2.1 x.2.2
def zeI (_:Int × Int × Int):Prop:=True
def zbE (x:List SackS):Bool:=sacksB x
def zeB (x:List SackS):Prop:=x.length<=big47
def zcf (x:(List SackS) × List TakeS):Bool:=batchB x.1 x.2
def zeC (x:(List SackS) × List TakeS):Prop:=x.1.length<=8/\x.2.length<=big47
def zce (x:List Tint):Bool:=curveB x
def zeA (_:List Tint):Prop:=True
def atGo (c:List Tint) (all g:Int):Nat->Nat->Nat
 | 0,i=>i
 | n+1,i=>cond (decide ((i:Int)+1<(c.length:Int))&&decide ((c.getD i (0,0)).1*all<1000*g)) (atGo c all g n (i+1)) i
abbrev atI (m:Mix):Nat:=atGo m.1 (m.2.1+m.2.2) m.2.1 m.1.length 1
abbrev atAt (m:Mix) (i:Int):Int × Int:=((m.1.getD (yby (i - 1)) (0,0)).2*((m.1.getD (yby i) (0,0)).1 - (m.1.getD (yby (i - 1)) (0,0)).1)*(m.2.1+m.2.2)+((m.1.getD (yby i) (0,0)).2 - (m.1.getD (yby (i - 1)) (0,0)).2)*(1000*m.2.1 - (m.1.getD (yby (i - 1)) (0,0)).1*(m.2.1+m.2.2)),((m.1.getD (yby i) (0,0)).1 - (m.1.getD (yby (i - 1)) (0,0)).1)*(m.2.1+m.2.2))
structure AtOk (m:Mix):Prop where
 curve:curveB m.1=true
 g:0<=m.2.1
 c:0<=m.2.2
 one:1<=m.2.1+m.2.2
 top:m.2.1+m.2.2<=4000000000000
def zaE (x:Mix):Int × Int:=atAt x (atI x:Nat)
def zdJ (x:Mix):Prop:=AtOk x
structure FraOk (x:Int × Int):Prop where
 under:1<=x.2/\x.2<=4000000000000000
 top:0<=x.1/\x.1<=4000000000000000000
def zaZ (x:Int × Int):Int:=ydv (x.1+x.2 - 1) x.2
def zdI (x:Int × Int):Prop:=FraOk x
def zax (x:Int × Int):Int:=ydv x.1 x.2
def zcN (x:Int × Int):Prop:=FraOk x
abbrev BlackIn:=(List SackS) × (List TakeS) × (List Tint) × Int × List Int
def zbY (_:Unit):Bool:=true
def zby (_:Unit):Prop:=True
def zah (x:Span × Int × List Int):Int:=x.1.1+ydA (Go.IntKind.wrap .i64 (x.2.2.getD (yby (ydA x.2.1 (x.2.2.length:Int))) 0)) (x.1.2 - x.1.1+1)
def zaK (x:Span × Int × List Int):Prop:=((0<=x.1.1/\x.1.1<=x.1.2)/\x.1.2<=1000000)/\0<=x.2.1/\x.2.2.length≠0/\∀ b∈x.2.2,(0:Int)<=b/\b<=4294967295
def zbh (_:BlackIn):Bool:=true
def zez (x:BlackIn):Prop:=(x.1.length<=big47/\x.2.1.length<=big47)/\(0<=x.2.2.2.1/\x.2.2.2.1<=255)/\∀ b∈x.2.2.2.2,(0:Int)<=b/\b<=4294967295
abbrev tkK (x:BlackIn) (i:Int):TakeS:=x.2.1.getD (yby i) (0,0,0)
abbrev skK (x:BlackIn) (i:Int):SackS:=x.1.getD (yby (tkK x i).1) ((0,0),(0,0),0,0)
abbrev wK (x:BlackIn) (i:Int):Int:=zah ((skK x i).1,3*(tkK x i).1,x.2.2.2.2)
abbrev cK (x:BlackIn) (i:Int):Int:=zah ((skK x i).2.1,3*(tkK x i).1+1,x.2.2.2.2)
abbrev lK (x:BlackIn) (i:Int):Int:=zah ((skK x i).2.2,3*(tkK x i).1+2,x.2.2.2.2)
abbrev mK (x:BlackIn) (i:Int):Int:=zah ((tkK x i).2,5*i+2,x.2.2.2.2)
abbrev gK (x:BlackIn):PartsS × Int:=zcd (x.1,x.2.1)
abbrev hK (x:BlackIn):Span × Int:=zbp (x.1,x.2.1)
abbrev tK (x:BlackIn):Int:=ydA x.2.2.2.1 201
abbrev bK (x:BlackIn):Span × Int:=zaI (x.2.2.1,(gK x).1.2.1,(gK x).1.2.2.2.1,tK x,[],(0,0),(0,0),0)
abbrev aK (x:BlackIn) (a b:Int):Int × Int:=zaE (x.2.2.1,a,b)
abbrev uK (x:BlackIn) (a b:Int):Int:=zaZ (aK x a b)
abbrev dK (x:BlackIn) (a b:Int):Int:=zax (aK x a b)
abbrev nK (x:BlackIn) (a b:Int):Int:=(uK x a b - tK x)+ydA (Go.IntKind.wrap .i64 (x.2.2.2.2.getD (yby 0) 0)) (((dK x a b+tK x) - (uK x a b - tK x))+1)
end Go.Tt
/- Written by a program of mine (wip/tools/gen.py): contexts and conditions of functions. -/
set_option maxHeartbeats 4000000
namespace Go.Tt
open Go Go.Sx
def TK:Tabs:={
 tyL:=[(3,I),(4,.bo),(5,(.i .u8)),(22,(.sl (.st (.p (.st (.p I I)) (.p (.st (.p I I)) (.st (.p I I))))))),(23,(.sl (.st (.p I (.st (.p I I)))))),(24,(.sl (.st (.p I I)))),(25,(.sl (.i .u32))),(31,(.st (.p I I))),(33,(.st (.p I (.st (.p I I))))),(35,(.st (.p (.st (.p I I)) (.p (.st (.p I I)) (.p (.st (.p I I)) (.p (.st (.p I I)) (.st (.p I I)))))))),(36,I),(41,(.sl (.st (.p (.st (.p I I)) (.st (.p I I)))))),(43,(.st (.p (.st (.p I I)) (.p (.st (.p I I)) (.p I (.p (.sl (.st (.p (.st (.p I I)) (.st (.p I I))))) (.p (.st (.p I I)) (.p (.st (.p I I)) I)))))))),(45,(.i .u32)),(46,(.f2 (.st (.p I I)) I I)),(48,(.st (.p (.st (.p I I)) (.p (.st (.p I I)) (.st (.p I I)))))),(50,(.st (.p I I))),(121,(.st (.p I I))),(123,(.mp I (.st (.p (.st (.p (.st (.p I I)) (.p (.st (.p I I)) (.st (.p I I))))) (.st (.p I I)))))),(125,(.arr 5 (.st (.p I I)))),(126,(.f1 (.st (.p I (.p I I))) I)),(129,(.st (.p I (.p I I)))),(130,(.arr 5 (.f1 (.st (.p I (.p I I))) I))),(131,(.f1 (.f1 (.st (.p I (.p I I))) I) (.st (.p I I)))),(135,(.f1 I .bo)),(142,(.st (.p (.st (.p I I)) (.st (.p I I))))),(216,(.f1 (.st (.p (.st (.p I I)) (.p (.st (.p I I)) (.st (.p I I))))) .bo)),(218,(.f1 (.st (.p I (.st (.p I I)))) .bo)),(221,(.st (.p (.st (.p (.st (.p I I)) (.p (.st (.p I I)) (.st (.p I I))))) (.st (.p I I))))),(260,(.sq false (.st (.p I (.p I I))))),(261,(.sq false (.st (.p I (.p I I))))),(297,(.f1 (.st (.p I (.p I I))) .bo)),(298,(.arr 2 I))],
 elL:=[(22,48),(23,33),(24,121),(25,45),(41,142)],
 oneL:=[22,25,123,126],
 mtyL:=[(122,(3,221)),(123,(3,221)),(147,(153,3)),(148,(153,3)),(249,(3,4)),(282,(4,281))] }
def k125:Con:={ args:=[I,I,I],res:=[.bo],pre:=zdG,val:=zcu }
def k122:Con:={ args:=[(.st (.p I I)),I,I],res:=[.bo],pre:=zcl,val:=zbs }
def k121:Con:={ args:=[(.st (.p (.st (.p I I)) (.p (.st (.p I I)) (.st (.p I I)))))],res:=[.bo],pre:=zcm,val:=zcn }
def k175:Con:={ args:=[(.sl (.st (.p (.st (.p I I)) (.p (.st (.p I I)) (.st (.p I I)))))),(.f1 (.st (.p (.st (.p I I)) (.p (.st (.p I I)) (.st (.p I I))))) .bo)],res:=[I],pre:=zbe,val:=zat }
def k123:Con:={ args:=[(.sl (.st (.p (.st (.p I I)) (.p (.st (.p I I)) (.st (.p I I)))))),(.f1 (.st (.p (.st (.p I I)) (.p (.st (.p I I)) (.st (.p I I))))) .bo)],res:=[.bo],pre:=zaV,val:=zaA }
def k51:Con:={ args:=[(.sl (.st (.p (.st (.p I I)) (.p (.st (.p I I)) (.st (.p I I))))))],res:=[.bo],pre:=zcY,val:=zaO }
def k124:Con:={ args:=[(.st (.p I (.st (.p I I)))),(.ref (.sl (.st (.p (.st (.p I I)) (.p (.st (.p I I)) (.st (.p I I)))))))],res:=[.bo],pre:=zcx,val:=zcA }
def k176:Con:={ args:=[(.sl (.st (.p I (.st (.p I I))))),(.f1 (.st (.p I (.st (.p I I)))) .bo)],res:=[I],pre:=zbd,val:=zas }
def k126:Con:={ args:=[(.sl (.st (.p I (.st (.p I I))))),(.f1 (.st (.p I (.st (.p I I)))) .bo)],res:=[.bo],pre:=zaU,val:=zaz }
def k52:Con:={ args:=[(.sl (.st (.p (.st (.p I I)) (.p (.st (.p I I)) (.st (.p I I)))))),(.sl (.st (.p I (.st (.p I I)))))],res:=[.bo],pre:=zds,val:=zbq }
def k127:Con:={ args:=[(.st (.p I (.p I I)))],res:=[I],pre:=zbV,val:=zaD }
def k55:Con:={ args:=[(.st (.p I (.p I I)))],res:=[I],pre:=zbO,val:=zaX }
def k54:Con:={ args:=[(.st (.p I (.p I I)))],res:=[I],pre:=zdj,val:=zcK }
def k56:Con:={ args:=[(.st (.p I (.p I I)))],res:=[I],pre:=zdi,val:=zcJ }
def k57:Con:={ args:=[(.st (.p I (.p I I)))],res:=[I],pre:=zck,val:=zbw }
def k58:Con:={ args:=[(.st (.p I (.p I I)))],res:=[I],pre:=zcw,val:=zbo }
def k130:Con:={ args:=[(.st (.p I (.p I I))),I],res:=[I],pre:=zdw,val:=zcV }
def k129:Con:={ args:=[(.st (.p I (.p I I))),(.ref I)],res:=[I],pre:=zbB,val:=zbu }
def k202:ICon:={ args:=[(.ref (.st (.p (.st (.p (.st (.p I I)) (.p (.st (.p I I)) (.st (.p I I))))) (.st (.p I I)))))],two:=false,elt:=(.st (.p I (.p I I))),pre:=zbA,seq:=zaJ }
def k177:Con:={ args:=[(.st (.p (.st (.p (.st (.p I I)) (.p (.st (.p I I)) (.st (.p I I))))) (.st (.p I I))))],res:=[(.sq false (.st (.p I (.p I I))))],pre:=zcU,val:=zbN }
def k128:Con:={ args:=[(.st (.p (.st (.p (.st (.p I I)) (.p (.st (.p I I)) (.st (.p I I))))) (.st (.p I I)))),(.f1 (.st (.p I (.p I I))) I)],res:=[(.st (.p I I))],pre:=zcv,val:=zaC }
def k59:Con:={ args:=[(.mp I (.st (.p (.st (.p (.st (.p I I)) (.p (.st (.p I I)) (.st (.p I I))))) (.st (.p I I))))),(.f1 (.st (.p I (.p I I))) I)],res:=[(.st (.p I I))],pre:=zcL,val:=zbS }
def k64:Con:={ args:=[(.mp I (.st (.p (.st (.p (.st (.p I I)) (.p (.st (.p I I)) (.st (.p I I))))) (.st (.p I I))))),I],res:=[(.st (.p I I))],pre:=zcb,val:=zbP }
def k63:Con:={ args:=[I,(.ref (.mp I (.st (.p (.st (.p (.st (.p I I)) (.p (.st (.p I I)) (.st (.p I I))))) (.st (.p I I))))))],res:=[.bo],pre:=zeb,val:=zec }
def k65:Con:={ args:=[I,(.ref (.mp I (.st (.p (.st (.p (.st (.p I I)) (.p (.st (.p I I)) (.st (.p I I))))) (.st (.p I I))))))],res:=[.bo],pre:=ze,val:=zea }
def k60:Con:={ args:=[I,I],res:=[I],pre:=zcX,val:=zbt }
def k61:Con:={ args:=[I,I],res:=[I],pre:=zeU,val:=zdH }
def k53:Con:={ args:=[(.sl (.st (.p (.st (.p I I)) (.p (.st (.p I I)) (.st (.p I I)))))),(.sl (.st (.p I (.st (.p I I)))))],res:=[(.mp I (.st (.p (.st (.p (.st (.p I I)) (.p (.st (.p I I)) (.st (.p I I))))) (.st (.p I I)))))],pre:=zcW,val:=zaG }
def k13:Con:={ args:=[(.sl (.st (.p (.st (.p I I)) (.p (.st (.p I I)) (.st (.p I I)))))),(.sl (.st (.p I (.st (.p I I)))))],res:=[(.st (.p (.st (.p I I)) (.p (.st (.p I I)) (.p (.st (.p I I)) (.p (.st (.p I I)) (.st (.p I I))))))),I],pre:=zfC,val:=zcd }
def k14:Con:={ args:=[(.sl (.st (.p (.st (.p I I)) (.p (.st (.p I I)) (.st (.p I I)))))),(.sl (.st (.p I (.st (.p I I)))))],res:=[(.st (.p I I)),I],pre:=zdZ,val:=zbp }
def k48:Con:={ args:=[(.st (.p I I)),I,I],res:=[.bo],pre:=zco,val:=zaq }
def k49:Con:={ args:=[I,I,I],res:=[.bo],pre:=zeJ,val:=zcG }
def k50:Con:={ args:=[I,I,I],res:=[.bo],pre:=zeI,val:=zaY }
def k9:Con:={ args:=[(.sl (.st (.p (.st (.p I I)) (.p (.st (.p I I)) (.st (.p I I))))))],res:=[.bo],pre:=zeB,val:=zbE }
def k10:Con:={ args:=[(.sl (.st (.p (.st (.p I I)) (.p (.st (.p I I)) (.st (.p I I)))))),(.sl (.st (.p I (.st (.p I I)))))],res:=[.bo],pre:=zeC,val:=zcf }
def k11:Con:={ args:=[(.sl (.st (.p I I)))],res:=[.bo],pre:=zeA,val:=zce }
def k17:Con:={ args:=[(.sl (.st (.p I I))),I,I],res:=[(.st (.p I I))],pre:=zdJ,val:=zaE }
def k18:Con:={ args:=[(.st (.p I I))],res:=[I],pre:=zdI,val:=zaZ }
def k19:Con:={ args:=[(.st (.p I I))],res:=[I],pre:=zcN,val:=zax }
def k12:Con:={ args:=[],res:=[.bo],pre:=zby,val:=zbY }
def k16:Con:={ args:=[(.st (.p I I)),I,(.ref (.sl (.i .u32)))],res:=[I],pre:=zaK,val:=zah }
def k3:Con:={ args:=[(.sl (.st (.p (.st (.p I I)) (.p (.st (.p I I)) (.st (.p I I)))))),(.sl (.st (.p I (.st (.p I I))))),(.sl (.st (.p I I))),(.i .u8),(.sl (.i .u32))],res:=[.bo],pre:=zez,val:=zbh }
def cx125:Cx:=mkCx TK 15 [] [] [] [] [] [] [] none
abbrev yZT:=(Prod Int Int)
abbrev yZS:=((Int × Int) × (Int × Int) × Int × Int)
abbrev yZR:=(Prod yZT (Prod yZT yZT))
abbrev yZQ:=(Int × Int × Int)
abbrev yZP:=(Prod Int yZT)
abbrev yZO:=(Prod yZR yZT)
abbrev yZN:=(Prod yZT (Prod yZT yZR))
abbrev yZM:=(Prod Int (Prod (List yZP) Bool))
abbrev yZL:=(yZS × Int × Int)
abbrev yZK:=(Prod yZT Int)
abbrev yZJ:=(Prod Int yZO)
def V125 (x:Int × Int × Int):Prop:=(((decide ((x.2.1:Int)<=x.1)&&decide ((x.1:Int)<=x.2.2)):Bool)=(zcu x))
theorem e125 (x:Ds k125.args):vcFun cx125 f125 k125 x=V125 x:=by kernel_rfl
def cx122:Cx:=mkCx TK 24 [] [] [] [] [] [] [] none
def V122 (x:(Int × Int) × Int × Int):Prop:=((((decide ((x.2.1:Int)<=x.1.1)&&decide ((x.1.1:Int)<=x.1.2))&&decide ((x.1.2:Int)<=x.2.2)):Bool)=(zbs x))
theorem e122 (x:Ds k122.args):vcFun cx122 f122 k122 x=V122 x:=by kernel_rfl
def cx121:Cx:=mkCx TK 19 [(122,k122)] [] [] [] [] [] [] none
def V121 (x:(Int × Int) × (Int × Int) × Int × Int):Prop:=((zcl (x.1,0,900))/\((((!(zbs (x.1,0,900)))=false)->(zcl (x.2.1,0,1000)))/\(((((!(zbs (x.1,0,900)))||(!(zbs (x.2.1,0,1000))))=false)->(zcl (x.2.2,0,900)))/\(((((!(zbs (x.1,0,900)))||(!(zbs (x.2.1,0,1000))))||(!(zbs (x.2.2,0,900)))):Bool)=(zcn x)))))
theorem e121 (x:Ds k121.args):vcFun cx121 f121 k121 x=V121 x:=by kernel_rfl
def cx175:Cx:=mkCx TK 19 [] [] [] [] [] [(2,⟨[(8,false)],[],[],[]⟩)] [] none
def V175 (x:(List yZS) × Go.Sx.Fun yZS Bool):Prop:=Z.LoopP (X:=Int) (0) (fun s0 K0=>(((decide ((s0:Int)<(x.1.length:Int))=true)->(((0:Int)<=s0/\(s0:Int)<(x.1.length:Int))/\((x.2.pre (x.1.getD (yby s0) ((0,0),(0,0),0,0)))/\((((x.2.val (x.1.getD (yby s0) ((0,0),(0,0),0,0)))=true)->((s0:Int)=(zat x)))/\(((x.2.val (x.1.getD (yby s0) ((0,0),(0,0),0,0)))=false)->(Z.in64 (s0+1)/\(K0 (s0+1))))))))/\((decide ((s0:Int)<(x.1.length:Int))=false)->(((-1):Int)=(zat x)))))
theorem e175 (x:Ds k175.args):vcFun cx175 f175 k175 x=V175 x:=by kernel_rfl
def cx123:Cx:=mkCx TK 9 [(175,k175)] [] [] [] [] [] [] none
def V123 (x:(List yZS) × Go.Sx.Fun yZS Bool):Prop:=((zbe (x.1,x.2))/\((decide ((0:Int)<=(zat (x.1,x.2))):Bool)=(zaA x)))
theorem e123 (x:Ds k123.args):vcFun cx123 f123 k123 x=V123 x:=by kernel_rfl
def cx51:Cx:=mkCx TK 13 [(121,k121),(123,k123)] [] [] [] [] [] [] none
def V51 (x:List yZS):Prop:=(((decide (((x.length:Int):Int)<=8)=true)->(zaV (x,(⟨zcm,zcn⟩:Go.Sx.Fun (yZR) (Bool)))))/\(((decide (((x.length:Int):Int)<=8)&&(!(zaA (x,(⟨zcm,zcn⟩:Go.Sx.Fun (yZR) (Bool)))))):Bool)=(zaO x)))
theorem e51 (x:Ds k51.args):vcFun cx51 f51 k51 x=V51 x:=by kernel_rfl
def cx124:Cx:=mkCx TK 17 [(125,k125),(122,k122)] [] [] [] [] [] [] none
def V124 (x:yZQ × List yZS):Prop:=(Z.in64 ((x.2.length:Int) - 1)/\((zdG (x.1.1,0,((x.2.length:Int) - 1)))/\((((!(zcu (x.1.1,0,((x.2.length:Int) - 1))))=false)->(zcl (x.1.2,1,100000)))/\((((!(zcu (x.1.1,0,((x.2.length:Int) - 1))))||(!(zbs (x.1.2,1,100000)))):Bool)=(zcA x)))))
theorem e124 (x:Ds k124.args):vcFun cx124 f124 k124 x=V124 x:=by kernel_rfl
def cx176:Cx:=mkCx TK 19 [] [] [] [] [] [(2,⟨[(8,false)],[],[],[]⟩)] [] none
def V176 (x:(List yZQ) × Go.Sx.Fun yZQ Bool):Prop:=Z.LoopP (X:=Int) (0) (fun s0 K0=>(((decide ((s0:Int)<(x.1.length:Int))=true)->(((0:Int)<=s0/\(s0:Int)<(x.1.length:Int))/\((x.2.pre (x.1.getD (yby s0) (0,0,0)))/\((((x.2.val (x.1.getD (yby s0) (0,0,0)))=true)->((s0:Int)=(zas x)))/\(((x.2.val (x.1.getD (yby s0) (0,0,0)))=false)->(Z.in64 (s0+1)/\(K0 (s0+1))))))))/\((decide ((s0:Int)<(x.1.length:Int))=false)->(((-1):Int)=(zas x)))))
theorem e176 (x:Ds k176.args):vcFun cx176 f176 k176 x=V176 x:=by kernel_rfl
def cx126:Cx:=mkCx TK 9 [(176,k176)] [] [] [] [] [] [] none
def V126 (x:(List yZQ) × Go.Sx.Fun yZQ Bool):Prop:=((zbd (x.1,x.2))/\((decide ((0:Int)<=(zas (x.1,x.2))):Bool)=(zaz x)))
theorem e126 (x:Ds k126.args):vcFun cx126 f126 k126 x=V126 x:=by kernel_rfl
def cx52:Cx:=mkCx TK 16 [(124,k124),(125,k125),(126,k126)] [] [] [] [] [] [] none
def V52 (x:(List yZS) × List yZQ):Prop:=((zdG ((x.2.length:Int),1,8))/\((((zcu ((x.2.length:Int),1,8))=true)->(zaU (x.2,(⟨(fun x0=>(zcx (x0,x.1))),(fun x1=>(zcA (x1,x.1)))⟩:Go.Sx.Fun (yZP) (Bool)))))/\((((zcu ((x.2.length:Int),1,8))&&(!(zaz (x.2,(⟨(fun x2=>(zcx (x2,x.1))),(fun x3=>(zcA (x3,x.1)))⟩:Go.Sx.Fun (yZP) (Bool)))))):Bool)=(zbq x))))
theorem e52 (x:Ds k52.args):vcFun cx52 f52 k52 x=V52 x:=by kernel_rfl
def cx127:Cx:=mkCx TK 6 [] [] [] [] [] [] [] none
def V127 (x:Int × Int × Int):Prop:=(Z.in64 (1000 - x.1)/\(((1000 - x.1):Int)=(zaD x)))
theorem e127 (x:Ds k127.args):vcFun cx127 f127 k127 x=V127 x:=by kernel_rfl
def cx55:Cx:=mkCx TK 9 [(127,k127)] [] [] [] [] [] [] none
def V55 (x:Int × Int × Int):Prop:=((zbV x)/\(Z.in64 ((zaD x)*x.2.1)/\(Z.in64 (((zaD x)*x.2.1)*1000)/\(((((zaD x)*x.2.1)*1000):Int)=(zaX x)))))
theorem e55 (x:Ds k55.args):vcFun cx55 f55 k55 x=V55 x:=by kernel_rfl
def cx54:Cx:=mkCx TK 7 [] [] [] [] [] [] [] none
def V54 (x:Int × Int × Int):Prop:=(Z.in64 (x.1*1000)/\(Z.in64 ((x.1*1000)*1000)/\((((x.1*1000)*1000):Int)=(zcK x))))
theorem e54 (x:Ds k54.args):vcFun cx54 f54 k54 x=V54 x:=by kernel_rfl
def cx56:Cx:=mkCx TK 12 [(127,k127)] [] [] [] [] [] [] none
def V56 (x:Int × Int × Int):Prop:=((zbV x)/\(Z.in64 (1000 - x.2.1)/\(Z.in64 ((zaD x)*(1000 - x.2.1))/\(Z.in64 (((zaD x)*(1000 - x.2.1))*x.2.2)/\(((((zaD x)*(1000 - x.2.1))*x.2.2):Int)=(zcJ x))))))
theorem e56 (x:Ds k56.args):vcFun cx56 f56 k56 x=V56 x:=by kernel_rfl
def cx57:Cx:=mkCx TK 13 [(127,k127)] [] [] [] [] [] [] none
def V57 (x:Int × Int × Int):Prop:=((zbV x)/\(Z.in64 (1000 - x.2.1)/\(Z.in64 ((zaD x)*(1000 - x.2.1))/\(Z.in64 (1000 - x.2.2)/\(Z.in64 (((zaD x)*(1000 - x.2.1))*(1000 - x.2.2))/\(((((zaD x)*(1000 - x.2.1))*(1000 - x.2.2)):Int)=(zbw x)))))))
theorem e57 (x:Ds k57.args):vcFun cx57 f57 k57 x=V57 x:=by kernel_rfl
def cx58:Cx:=mkCx TK 8 [(55,k55),(57,k57)] [] [] [] [] [] [] none
def V58 (x:Int × Int × Int):Prop:=((zbO x)/\((zck x)/\(Z.in64 ((zaX x)+(zbw x))/\((((zaX x)+(zbw x)):Int)=(zbo x)))))
theorem e58 (x:Ds k58.args):vcFun cx58 f58 k58 x=V58 x:=by kernel_rfl
def cx130:Cx:=mkCx TK 13 [(55,k55),(58,k58)] [] [] [] [] [] [] none
def V130 (x:yZQ × Int):Prop:=((zbO x.1)/\(Z.in64 (1000*(zaX x.1))/\((zcw x.1)/\(Z.in64 (x.2*(zbo x.1))/\(Z.in64 ((1000*(zaX x.1)) - (x.2*(zbo x.1)))/\((((1000*(zaX x.1)) - (x.2*(zbo x.1))):Int)=(zcV x)))))))
theorem e130 (x:Ds k130.args):vcFun cx130 f130 k130 x=V130 x:=by kernel_rfl
def cx129:Cx:=mkCx TK 7 [(130,k130)] [] [] [] [] [] [] none
def V129 (x:yZQ × Int):Prop:=((zdw (x.1,x.2))/\(((zcV (x.1,x.2)):Int)=(zbu x)))
theorem e129 (x:Ds k129.args):vcFun cx129 f129 k129 x=V129 x:=by kernel_rfl
def cx202 (ly:Nat) (x:Ds k202.args):Cx:=mkCx TK 55 [] [] [] [] [] [(1,⟨[(18,false)],[300000],[],[]⟩),(4,⟨[(30,false)],[300000],[],[]⟩),(7,⟨[(42,false)],[300000],[],[]⟩)] [] (some ⟨ly,300000,k202.two,k202.elt,k202.seq x⟩)
def V202 (ly:Nat) (x:yZS × Int × Int):Prop:=Z.LoopP (X:=yZM) ((0,[],false)) (fun s0 K0=>(((decide ((s0.1:Int)<2)=true)->(((0:Int)<=s0.1/\(s0.1:Int)<2)/\Z.LoopP (X:=yZM) ((0,s0.2)) (fun s1 K1=>(((decide ((s1.1:Int)<2)=true)->(((0:Int)<=s1.1/\(s1.1:Int)<2)/\Z.LoopP (X:=yZM) ((0,s1.2)) (fun s2 K2=>(((decide ((s2.1:Int)<2)=true)->(((0:Int)<=s2.1/\(s2.1:Int)<2)/\(True/\(True/\(True/\(True/\(True/\((((ly:Nat)=ly)/\(s2.2.2=false))/\((∃ r3,((zaJ x)=(s2.2.1++((((((yaa 2 0).set 0 x.1.1.1).set 1 x.1.1.2).getD (yby s0.1) 0),((((yaa 2 0).set 0 x.1.2.1.1).set 1 x.1.2.1.2).getD (yby s1.1) 0),((((yaa 2 0).set 0 x.1.2.2.1).set 1 x.1.2.2.2).getD (yby s2.1) 0))::r3))))/\((True/\((((!true)=true)->((false=false)->(((s2.2.1++[(((((yaa 2 0).set 0 x.1.1.1).set 1 x.1.1.2).getD (yby s0.1) 0),((((yaa 2 0).set 0 x.1.2.1.1).set 1 x.1.2.1.2).getD (yby s1.1) 0),((((yaa 2 0).set 0 x.1.2.2.1).set 1 x.1.2.2.2).getD (yby s2.1) 0))]):(List yZP))=(zaJ x))))/\(((!true)=false)->(Z.in64 (s2.1+1)/\(K2 ((s2.1+1),(s2.2.1++[(((((yaa 2 0).set 0 x.1.1.1).set 1 x.1.1.2).getD (yby s0.1) 0),((((yaa 2 0).set 0 x.1.2.1.1).set 1 x.1.2.1.2).getD (yby s1.1) 0),((((yaa 2 0).set 0 x.1.2.2.1).set 1 x.1.2.2.2).getD (yby s2.1) 0))]),false))))))/\(True/\((((!false)=true)->((true=false)->(((s2.2.1++[(((((yaa 2 0).set 0 x.1.1.1).set 1 x.1.1.2).getD (yby s0.1) 0),((((yaa 2 0).set 0 x.1.2.1.1).set 1 x.1.2.1.2).getD (yby s1.1) 0),((((yaa 2 0).set 0 x.1.2.2.1).set 1 x.1.2.2.2).getD (yby s2.1) 0))]):(List yZP))=(zaJ x))))/\(((!false)=false)->(Z.in64 (s2.1+1)/\(K2 ((s2.1+1),(s2.2.1++[(((((yaa 2 0).set 0 x.1.1.1).set 1 x.1.1.2).getD (yby s0.1) 0),((((yaa 2 0).set 0 x.1.2.1.1).set 1 x.1.2.1.2).getD (yby s1.1) 0),((((yaa 2 0).set 0 x.1.2.2.1).set 1 x.1.2.2.2).getD (yby s2.1) 0))]),true))))))))))))))))/\((decide ((s2.1:Int)<2)=false)->(Z.in64 (s1.1+1)/\(K1 ((s1.1+1),s2.2))))))))/\((decide ((s1.1:Int)<2)=false)->(Z.in64 (s0.1+1)/\(K0 ((s0.1+1),s1.2))))))))/\((decide ((s0.1:Int)<2)=false)->((s0.2.2=false)->((s0.2.1:(List yZP))=(zaJ x))))))
theorem e202 (ly:Nat) (x:Ds k202.args):vcIter (cx202 ly x) f202 k202 x=V202 ly x:=by kernel_rfl
def cx177:Cx:=mkCx TK 4 [] [] [(202,k202)] [] [] [] [] none
def V177 (x:yZS × Int × Int):Prop:=((⟨(zbA x),(zaJ x)⟩:(Go.Sx.Seq yZP))=(zbN x))
theorem e177 (x:Ds k177.args):vcFun cx177 f177 k177 x=V177 x:=by kernel_rfl
def cx128:Cx:=mkCx TK 52 [(177,k177)] [] [] [] [] [(3,⟨[],[4,5],[],[]⟩)] [] none
def V128 (x:yZL × Go.Sx.Fun yZQ Int):Prop:=((zcU x.1)/\((zbN x.1).1/\Z.RangeP (X:=(Prod yZT Bool)) (((0,0),true)) ((zbN x.1).2) (fun e0 s0 K0=>((x.2.pre e0)/\(Z.in64 (x.1.2.1*(x.2.val e0))/\(Z.in64 (x.1.2.2*(x.2.val e0))/\(Z.in64 (x.1.2.1*(x.2.val e0))/\(Z.in64 (x.1.2.2*(x.2.val e0))/\(((s0.2=true)->(K0 (((min (min (x.1.2.1*(x.2.val e0)) (x.1.2.2*(x.2.val e0))) (min (x.1.2.1*(x.2.val e0)) (x.1.2.2*(x.2.val e0)))),(max (max (x.1.2.1*(x.2.val e0)) (x.1.2.2*(x.2.val e0))) (max (x.1.2.1*(x.2.val e0)) (x.1.2.2*(x.2.val e0))))),false)))/\((s0.2=false)->(K0 (((min s0.1.1 (min (x.1.2.1*(x.2.val e0)) (x.1.2.2*(x.2.val e0)))),(max s0.1.2 (max (x.1.2.1*(x.2.val e0)) (x.1.2.2*(x.2.val e0))))),s0.2)))))))))) (fun s0=>((s0.1:yZT)=(zaC x)))))
theorem e128 (x:Ds k128.args):vcFun cx128 f128 k128 x=V128 x:=by kernel_rfl
def cx59:Cx:=mkCx TK 32 [(128,k128)] [] [] [] [] [(2,⟨[],[4,10],[],[]⟩)] [] none
def V59 (x:(Int->Option yZL) × Go.Sx.Fun yZQ Int):Prop:=Z.LoopP (X:=(Prod yZT (Prod (Int->(Option yZO)) (List yZJ)))) (((0,0),x.1,[])) (fun s0 K0=>((∀ k1,(∀ v2,(((s0.2.1 k1)=(some (v2):Option (yZO)))->((∀ p3,((@List.Mem yZJ p3 s0.2.2)->((p3.1=k1)->False)))->(True/\(((true=true)->(((0:Int)<=0/\(0:Int)<(((k1,v2)::s0.2.2).length:Int))/\((zcv ((((k1,v2)::s0.2.2).getD 0 (0,((0,0),(0,0),0,0),0,0)).2,x.2))/\(Z.in64 (s0.1.1+(zaC ((((k1,v2)::s0.2.2).getD 0 (0,((0,0),(0,0),0,0),0,0)).2,x.2)).1)/\(Z.in64 (s0.1.2+(zaC ((((k1,v2)::s0.2.2).getD 0 (0,((0,0),(0,0),0,0),0,0)).2,x.2)).2)/\(K0 (((s0.1.1+(zaC ((((k1,v2)::s0.2.2).getD 0 (0,((0,0),(0,0),0,0),0,0)).2,x.2)).1),(s0.1.2+(zaC ((((k1,v2)::s0.2.2).getD 0 (0,((0,0),(0,0),0,0),0,0)).2,x.2)).2)),s0.2.1,((k1,v2)::s0.2.2))))))))/\((true=false)->((s0.1:yZT)=(zbS x)))))))))/\((∀ k4,(∀ v5,(((s0.2.1 k4)=(some (v5):Option (yZO)))->(∃ r6,((@List.Mem yZJ r6 s0.2.2)/\(r6.1=k4))))))->(True/\(((false=true)->(((0:Int)<=0/\(0:Int)<(s0.2.2.length:Int))/\((zcv ((s0.2.2.getD 0 (0,((0,0),(0,0),0,0),0,0)).2,x.2))/\(Z.in64 (s0.1.1+(zaC ((s0.2.2.getD 0 (0,((0,0),(0,0),0,0),0,0)).2,x.2)).1)/\(Z.in64 (s0.1.2+(zaC ((s0.2.2.getD 0 (0,((0,0),(0,0),0,0),0,0)).2,x.2)).2)/\(K0 (((s0.1.1+(zaC ((s0.2.2.getD 0 (0,((0,0),(0,0),0,0),0,0)).2,x.2)).1),(s0.1.2+(zaC ((s0.2.2.getD 0 (0,((0,0),(0,0),0,0),0,0)).2,x.2)).2)),s0.2.1,s0.2.2)))))))/\((false=false)->((s0.1:yZT)=(zbS x))))))))
theorem e59 (x:Ds k59.args):vcFun cx59 f59 k59 x=V59 x:=by kernel_rfl
def cx64:Cx:=mkCx TK 8 [(129,k129),(59,k59)] [] [] [] [] [] [] none
def V64 (x:(Int->Option yZL) × Int):Prop:=((zcL (x.1,(⟨(fun x0=>(zbB (x0,x.2))),(fun x1=>(zbu (x1,x.2)))⟩:Go.Sx.Fun (yZP) (Int))))/\(((zbS (x.1,(⟨(fun x2=>(zbB (x2,x.2))),(fun x3=>(zbu (x3,x.2)))⟩:Go.Sx.Fun (yZP) (Int)))):yZT)=(zbP x)))
theorem e64 (x:Ds k64.args):vcFun cx64 f64 k64 x=V64 x:=by kernel_rfl
def cx63:Cx:=mkCx TK 9 [(64,k64)] [] [] [] [] [] [] none
def V63 (x:Int × (Int->Option yZL)):Prop:=((zcb (x.2,x.1))/\((decide (((zbP (x.2,x.1)).1:Int)<0):Bool)=(zec x)))
theorem e63 (x:Ds k63.args):vcFun cx63 f63 k63 x=V63 x:=by kernel_rfl
def cx65:Cx:=mkCx TK 9 [(64,k64)] [] [] [] [] [] [] none
def V65 (x:Int × (Int->Option yZL)):Prop:=((zcb (x.2,x.1))/\((decide (((zbP (x.2,x.1)).2:Int)<=0):Bool)=(zea x)))
theorem e65 (x:Ds k65.args):vcFun cx65 f65 k65 x=V65 x:=by kernel_rfl
def cx60:Cx:=mkCx TK 16 [] [] [] [] [] [] [] none
def V60 (x:Int × Int):Prop:=((((x.2:Int)≠0)/\Z.in64 (ydv x.1 x.2))/\(((x.2:Int)≠0)/\(((decide (((ydA x.1 x.2):Int)<0)=true)->(Z.in64 ((ydv x.1 x.2) - 1)/\((((ydv x.1 x.2) - 1):Int)=(zbt x))))/\((decide (((ydA x.1 x.2):Int)<0)=false)->(((ydv x.1 x.2):Int)=(zbt x))))))
theorem e60 (x:Ds k60.args):vcFun cx60 f60 k60 x=V60 x:=by kernel_rfl
def cx61:Cx:=mkCx TK 10 [(60,k60)] [] [] [] [] [] [] none
def V61 (x:Int × Int):Prop:=(Z.in64 (-x.1)/\((zcX ((-x.1),x.2))/\(Z.in64 (-(zbt ((-x.1),x.2)))/\(((-(zbt ((-x.1),x.2))):Int)=(zdH x)))))
theorem e61 (x:Ds k61.args):vcFun cx61 f61 k61 x=V61 x:=by kernel_rfl
def cx53:Cx:=mkCx TK 48 [] [] [] [] [] [(3,⟨[(12,false)],[9],[],[]⟩)] [] none
def V53 (x:(List yZS) × List yZQ):Prop:=Z.LoopP (X:=(Prod Int (Int->(Option yZO)))) ((0,(fun x1=>(none:Option (yZO))))) (fun s0 K0=>(((decide ((s0.1:Int)<(x.2.length:Int))=true)->(((0:Int)<=s0.1/\(s0.1:Int)<(x.2.length:Int))/\(((0:Int)<=(x.2.getD (yby s0.1) (0,0,0)).1/\((x.2.getD (yby s0.1) (0,0,0)).1:Int)<(x.1.length:Int))/\(Z.in64 ((((s0.2 ((x.2.getD (yby s0.1) (0,0,0)).1)).getD (((0,0),(0,0),0,0),0,0)).2).1+((x.2.getD (yby s0.1) (0,0,0)).2).1)/\(Z.in64 ((((s0.2 ((x.2.getD (yby s0.1) (0,0,0)).1)).getD (((0,0),(0,0),0,0),0,0)).2).2+((x.2.getD (yby s0.1) (0,0,0)).2).2)/\(Z.in64 (s0.1+1)/\(K0 ((s0.1+1),(@Go.Sx.Z.mput (Int) (yZO) (fun x2=>(fun x3=>(x2==x3))) s0.2 ((x.2.getD (yby s0.1) (0,0,0)).1) ((x.1.getD (yby ((x.2.getD (yby s0.1) (0,0,0)).1)) ((0,0),(0,0),0,0)),((((s0.2 ((x.2.getD (yby s0.1) (0,0,0)).1)).getD (((0,0),(0,0),0,0),0,0)).2).1+((x.2.getD (yby s0.1) (0,0,0)).2).1),((((s0.2 ((x.2.getD (yby s0.1) (0,0,0)).1)).getD (((0,0),(0,0),0,0),0,0)).2).2+((x.2.getD (yby s0.1) (0,0,0)).2).2)))))))))))/\((decide ((s0.1:Int)<(x.2.length:Int))=false)->((s0.2:(Int->(Option yZO)))=(zaG x)))))
theorem e53 (x:Ds k53.args):vcFun cx53 f53 k53 x=V53 x:=by kernel_rfl
def cx13:Cx:=mkCx TK 53 [(51,k51),(52,k52),(53,k53),(54,k54),(55,k55),(56,k56),(57,k57),(58,k58),(59,k59),(60,k60),(61,k61)] [] [] [] [] [(6,⟨[(25,false)],[7],[4],[]⟩)] [] none
def V13 (x:(List yZS) × List yZQ):Prop:=((zcY x.1)/\((((!(zaO x.1))=false)->(zds (x.1,x.2)))/\(((((!(zaO x.1))||(!(zbq (x.1,x.2))))=true)->(((((0,0),(0,0),(0,0),(0,0),0,0),1):(Prod yZN Int))=(zcd x)))/\((((!(zaO x.1))||(!(zbq (x.1,x.2))))=false)->((zcW (x.1,x.2))/\Z.LoopP (X:=(Prod Int (List yZT))) ((0,(yaa 5 (0,0)))) (fun s0 K0=>(((decide ((s0.1:Int)<5)=true)->(((0:Int)<=s0.1/\(s0.1:Int)<5)/\((zcL ((zaG (x.1,x.2)),(fun5.getD (yby s0.1) zFun)))/\((zcX ((sum5 x s0.1).1,1000000000))/\((zeU ((sum5 x s0.1).2,1000000000))/\(((0:Int)<=s0.1/\(s0.1:Int)<5)/\(Z.in64 (s0.1+1)/\(((((0,0),(0,0),(0,0),(0,0),0,0):yZN)=((0,0),(0,0),(0,0),(0,0),0,0))/\(K0 ((s0.1+1),(s0.2.set (yby s0.1) ((zbt ((sum5 x s0.1).1,1000000000)),(zdH ((sum5 x s0.1).2,1000000000))))))))))))))/\((decide ((s0.1:Int)<5)=false)->(((0:Int)<=0/\(0:Int)<5)/\(((0:Int)<=1/\(1:Int)<5)/\(((0:Int)<=2/\(2:Int)<5)/\(((0:Int)<=3/\(3:Int)<5)/\(((0:Int)<=4/\(4:Int)<5)/\(((((s0.2.getD (yby 0) (0,0)),(s0.2.getD (yby 1) (0,0)),(s0.2.getD (yby 2) (0,0)),(s0.2.getD (yby 3) (0,0)),(s0.2.getD (yby 4) (0,0))),0):(Prod yZN Int))=(zcd x)))))))))))))))
theorem e13 (x:Ds k13.args):vcFun cx13 f13 k13 x=V13 x:=by kernel_rfl
def cx14:Cx:=mkCx TK 30 [(51,k51),(52,k52),(53,k53),(63,k63),(62,k62),(65,k65)] [] [] [] [] [] [] none
def V14 (x:(List yZS) × List yZQ):Prop:=((zcY x.1)/\((((!(zaO x.1))=false)->(zds (x.1,x.2)))/\(((((!(zaO x.1))||(!(zbq (x.1,x.2))))=true)->((((0,0),1):yZK)=(zbp x)))/\((((!(zaO x.1))||(!(zbq (x.1,x.2))))=false)->((zcW (x.1,x.2))/\((zbK (1001,(lessF (zaG (x.1,x.2)))))/\((zbK (1000,(mostG (zaG (x.1,x.2)))))/\(Z.in64 ((zaH (1001,(lessF (zaG (x.1,x.2))))) - 1)/\((((((zaH (1001,(lessF (zaG (x.1,x.2))))) - 1),(zaH (1000,(mostG (zaG (x.1,x.2)))))),0):yZK)=(zbp x))))))))))
theorem e14 (x:Ds k14.args):vcFun cx14 f14 k14 x=V14 x:=by kernel_rfl
def cx48:Cx:=mkCx TK 24 [] [] [] [] [] [] [] none
def V48 (x:(Int × Int) × Int × Int):Prop:=((((decide ((x.2.1:Int)<=x.1.1)&&decide ((x.1.1:Int)<=x.1.2))&&decide ((x.1.2:Int)<=x.2.2)):Bool)=(zaq x))
theorem e48 (x:Ds k48.args):vcFun cx48 f48 k48 x=V48 x:=by kernel_rfl
def cx49:Cx:=mkCx TK 15 [] [] [] [] [] [] [] none
def V49 (x:Int × Int × Int):Prop:=(((decide ((x.2.1:Int)<=x.1)&&decide ((x.1:Int)<=x.2.2)):Bool)=(zcG x))
theorem e49 (x:Ds k49.args):vcFun cx49 f49 k49 x=V49 x:=by kernel_rfl
def cx50:Cx:=mkCx TK 15 [] [] [] [] [] [] [] none
def V50 (x:Int × Int × Int):Prop:=(((decide ((x.2.1:Int)<=x.1)&&decide ((x.1:Int)<=x.2.2)):Bool)=(zaY x))
theorem e50 (x:Ds k50.args):vcFun cx50 f50 k50 x=V50 x:=by kernel_rfl
def cx9:Cx:=mkCx TK 38 [(48,k48)] [] [] [] [] [(2,⟨[(3,false)],[],[],[]⟩)] [] none
def V9 (x:List yZS):Prop:=Z.LoopP (X:=Int) (0) (fun s0 K0=>(((decide ((s0:Int)<(x.length:Int))=true)->(((0:Int)<=s0/\(s0:Int)<(x.length:Int))/\((zco ((x.getD (yby s0) ((0,0),(0,0),0,0)).1,0,900))/\((((!(zaq ((x.getD (yby s0) ((0,0),(0,0),0,0)).1,0,900)))=false)->((0:Int)<=s0/\(s0:Int)<(x.length:Int)))/\((((!(zaq ((x.getD (yby s0) ((0,0),(0,0),0,0)).1,0,900)))=false)->(zco (((x.getD (yby s0) ((0,0),(0,0),0,0)).2).1,0,1000)))/\(((((!(zaq ((x.getD (yby s0) ((0,0),(0,0),0,0)).1,0,900)))||(!(zaq (((x.getD (yby s0) ((0,0),(0,0),0,0)).2).1,0,1000))))=false)->((0:Int)<=s0/\(s0:Int)<(x.length:Int)))/\(((((!(zaq ((x.getD (yby s0) ((0,0),(0,0),0,0)).1,0,900)))||(!(zaq (((x.getD (yby s0) ((0,0),(0,0),0,0)).2).1,0,1000))))=false)->(zco (((x.getD (yby s0) ((0,0),(0,0),0,0)).2).2,0,900)))/\((((((!(zaq ((x.getD (yby s0) ((0,0),(0,0),0,0)).1,0,900)))||(!(zaq (((x.getD (yby s0) ((0,0),(0,0),0,0)).2).1,0,1000))))||(!(zaq (((x.getD (yby s0) ((0,0),(0,0),0,0)).2).2,0,900))))=true)->((false:Bool)=(zbE x)))/\(((((!(zaq ((x.getD (yby s0) ((0,0),(0,0),0,0)).1,0,900)))||(!(zaq (((x.getD (yby s0) ((0,0),(0,0),0,0)).2).1,0,1000))))||(!(zaq (((x.getD (yby s0) ((0,0),(0,0),0,0)).2).2,0,900))))=false)->(Z.in64 (s0+1)/\(K0 (s0+1))))))))))))/\((decide ((s0:Int)<(x.length:Int))=false)->((decide (((x.length:Int):Int)<=8):Bool)=(zbE x)))))
theorem e9 (x:Ds k9.args):vcFun cx9 f9 k9 x=V9 x:=by kernel_rfl
def cx10:Cx:=mkCx TK 34 [(49,k49),(48,k48)] [] [] [] [] [(2,⟨[(5,false)],[],[],[]⟩)] [] none
def V10 (x:(List yZS) × List yZQ):Prop:=Z.LoopP (X:=Int) (0) (fun s0 K0=>(((decide ((s0:Int)<(x.2.length:Int))=true)->(((0:Int)<=s0/\(s0:Int)<(x.2.length:Int))/\(Z.in64 ((x.1.length:Int) - 1)/\((zeJ ((x.2.getD (yby s0) (0,0,0)).1,0,((x.1.length:Int) - 1)))/\((((!(zcG ((x.2.getD (yby s0) (0,0,0)).1,0,((x.1.length:Int) - 1))))=false)->((0:Int)<=s0/\(s0:Int)<(x.2.length:Int)))/\((((!(zcG ((x.2.getD (yby s0) (0,0,0)).1,0,((x.1.length:Int) - 1))))=false)->(zco ((x.2.getD (yby s0) (0,0,0)).2,1,100000)))/\(((((!(zcG ((x.2.getD (yby s0) (0,0,0)).1,0,((x.1.length:Int) - 1))))||(!(zaq ((x.2.getD (yby s0) (0,0,0)).2,1,100000))))=true)->((false:Bool)=(zcf x)))/\((((!(zcG ((x.2.getD (yby s0) (0,0,0)).1,0,((x.1.length:Int) - 1))))||(!(zaq ((x.2.getD (yby s0) (0,0,0)).2,1,100000))))=false)->(Z.in64 (s0+1)/\(K0 (s0+1)))))))))))/\((decide ((s0:Int)<(x.2.length:Int))=false)->((zeJ ((x.2.length:Int),1,8))/\(((zcG ((x.2.length:Int),1,8)):Bool)=(zcf x))))))
theorem e10 (x:Ds k10.args):vcFun cx10 f10 k10 x=V10 x:=by kernel_rfl
def cx11:Cx:=mkCx TK 70 [(50,k50)] [] [] [] [] [(4,⟨[(3,false)],[],[],[]⟩)] [] none
def V11 (x:List (Int × Int)):Prop:=((zeI ((x.length:Int),2,8))/\((((!(zaY ((x.length:Int),2,8)))=false)->((0:Int)<=0/\(0:Int)<(x.length:Int)))/\(((((!(zaY ((x.length:Int),2,8)))||(!((x.getD (yby 0) (0,0)).1==0)))=false)->Z.in64 ((x.length:Int) - 1))/\(((((!(zaY ((x.length:Int),2,8)))||(!((x.getD (yby 0) (0,0)).1==0)))=false)->((0:Int)<=((x.length:Int) - 1)/\(((x.length:Int) - 1):Int)<(x.length:Int)))/\((((((!(zaY ((x.length:Int),2,8)))||(!((x.getD (yby 0) (0,0)).1==0)))||(!((x.getD (yby ((x.length:Int) - 1)) (0,0)).1==1000)))=true)->((false:Bool)=(zce x)))/\(((((!(zaY ((x.length:Int),2,8)))||(!((x.getD (yby 0) (0,0)).1==0)))||(!((x.getD (yby ((x.length:Int) - 1)) (0,0)).1==1000)))=false)->Z.LoopP (X:=Int) (0) (fun s0 K0=>(((decide ((s0:Int)<(x.length:Int))=true)->(((0:Int)<=s0/\(s0:Int)<(x.length:Int))/\((zeI ((x.getD (yby s0) (0,0)).2,0,200))/\((((decide ((0:Int)<s0)=true)/\((!(zaY ((x.getD (yby s0) (0,0)).2,0,200)))=false))->((0:Int)<=s0/\(s0:Int)<(x.length:Int)))/\((((decide ((0:Int)<s0)=true)/\((!(zaY ((x.getD (yby s0) (0,0)).2,0,200)))=false))->Z.in64 (s0 - 1))/\((((decide ((0:Int)<s0)=true)/\((!(zaY ((x.getD (yby s0) (0,0)).2,0,200)))=false))->((0:Int)<=(s0 - 1)/\((s0 - 1):Int)<(x.length:Int)))/\((((decide (((x.getD (yby s0) (0,0)).1:Int)<=(x.getD (yby (s0 - 1)) (0,0)).1)=false)/\((decide ((0:Int)<s0)=true)/\((!(zaY ((x.getD (yby s0) (0,0)).2,0,200)))=false)))->((0:Int)<=s0/\(s0:Int)<(x.length:Int)))/\((((decide (((x.getD (yby s0) (0,0)).1:Int)<=(x.getD (yby (s0 - 1)) (0,0)).1)=false)/\((decide ((0:Int)<s0)=true)/\((!(zaY ((x.getD (yby s0) (0,0)).2,0,200)))=false)))->Z.in64 (s0 - 1))/\((((decide (((x.getD (yby s0) (0,0)).1:Int)<=(x.getD (yby (s0 - 1)) (0,0)).1)=false)/\((decide ((0:Int)<s0)=true)/\((!(zaY ((x.getD (yby s0) (0,0)).2,0,200)))=false)))->((0:Int)<=(s0 - 1)/\((s0 - 1):Int)<(x.length:Int)))/\(((((!(zaY ((x.getD (yby s0) (0,0)).2,0,200)))||(decide ((0:Int)<s0)&&(decide (((x.getD (yby s0) (0,0)).1:Int)<=(x.getD (yby (s0 - 1)) (0,0)).1)||decide (((x.getD (yby s0) (0,0)).2:Int)<(x.getD (yby (s0 - 1)) (0,0)).2))))=true)->((false:Bool)=(zce x)))/\((((!(zaY ((x.getD (yby s0) (0,0)).2,0,200)))||(decide ((0:Int)<s0)&&(decide (((x.getD (yby s0) (0,0)).1:Int)<=(x.getD (yby (s0 - 1)) (0,0)).1)||decide (((x.getD (yby s0) (0,0)).2:Int)<(x.getD (yby (s0 - 1)) (0,0)).2))))=false)->(Z.in64 (s0+1)/\(K0 (s0+1))))))))))))))/\((decide ((s0:Int)<(x.length:Int))=false)->((true:Bool)=(zce x)))))))))))
theorem e11 (x:Ds k11.args):vcFun cx11 f11 k11 x=V11 x:=by kernel_rfl
def cx17:Cx:=mkCx TK 74 [] [] [] [] [] [(3,⟨[(8,false)],[],[6],[]⟩)] [] none
def V17 (x:(List (Int × Int)) × Int × Int):Prop:=(Z.in64 (x.2.1+x.2.2)/\Z.LoopP (X:=Int) (1) (fun s0 K0=>(Z.in64 (s0+1)/\(((decide (((s0+1):Int)<(x.1.length:Int))=true)->((0:Int)<=s0/\(s0:Int)<(x.1.length:Int)))/\(((decide (((s0+1):Int)<(x.1.length:Int))=true)->Z.in64 ((x.1.getD (yby s0) (0,0)).1*(x.2.1+x.2.2)))/\(((decide (((s0+1):Int)<(x.1.length:Int))=true)->Z.in64 (1000*x.2.1))/\((((decide (((s0+1):Int)<(x.1.length:Int))&&decide ((((x.1.getD (yby s0) (0,0)).1*(x.2.1+x.2.2)):Int)<(1000*x.2.1)))=true)->(Z.in64 (s0+1)/\((((0,0):yZT)=(0,0))/\(K0 (s0+1)))))/\(((decide (((s0+1):Int)<(x.1.length:Int))&&decide ((((x.1.getD (yby s0) (0,0)).1*(x.2.1+x.2.2)):Int)<(1000*x.2.1)))=false)->(Z.in64 (s0 - 1)/\(((0:Int)<=(s0 - 1)/\((s0 - 1):Int)<(x.1.length:Int))/\(((0:Int)<=s0/\(s0:Int)<(x.1.length:Int))/\(Z.in64 ((x.1.getD (yby s0) (0,0)).1 - (x.1.getD (yby (s0 - 1)) (0,0)).1)/\(Z.in64 (1000*x.2.1)/\(Z.in64 ((x.1.getD (yby (s0 - 1)) (0,0)).1*(x.2.1+x.2.2))/\(Z.in64 ((1000*x.2.1) - ((x.1.getD (yby (s0 - 1)) (0,0)).1*(x.2.1+x.2.2)))/\(Z.in64 ((x.1.getD (yby (s0 - 1)) (0,0)).2*((x.1.getD (yby s0) (0,0)).1 - (x.1.getD (yby (s0 - 1)) (0,0)).1))/\(Z.in64 (((x.1.getD (yby (s0 - 1)) (0,0)).2*((x.1.getD (yby s0) (0,0)).1 - (x.1.getD (yby (s0 - 1)) (0,0)).1))*(x.2.1+x.2.2))/\(Z.in64 ((x.1.getD (yby s0) (0,0)).2 - (x.1.getD (yby (s0 - 1)) (0,0)).2)/\(Z.in64 (((x.1.getD (yby s0) (0,0)).2 - (x.1.getD (yby (s0 - 1)) (0,0)).2)*((1000*x.2.1) - ((x.1.getD (yby (s0 - 1)) (0,0)).1*(x.2.1+x.2.2))))/\(Z.in64 ((((x.1.getD (yby (s0 - 1)) (0,0)).2*((x.1.getD (yby s0) (0,0)).1 - (x.1.getD (yby (s0 - 1)) (0,0)).1))*(x.2.1+x.2.2))+(((x.1.getD (yby s0) (0,0)).2 - (x.1.getD (yby (s0 - 1)) (0,0)).2)*((1000*x.2.1) - ((x.1.getD (yby (s0 - 1)) (0,0)).1*(x.2.1+x.2.2)))))/\(Z.in64 (((x.1.getD (yby s0) (0,0)).1 - (x.1.getD (yby (s0 - 1)) (0,0)).1)*(x.2.1+x.2.2))/\(((((((x.1.getD (yby (s0 - 1)) (0,0)).2*((x.1.getD (yby s0) (0,0)).1 - (x.1.getD (yby (s0 - 1)) (0,0)).1))*(x.2.1+x.2.2))+(((x.1.getD (yby s0) (0,0)).2 - (x.1.getD (yby (s0 - 1)) (0,0)).2)*((1000*x.2.1) - ((x.1.getD (yby (s0 - 1)) (0,0)).1*(x.2.1+x.2.2))))),(((x.1.getD (yby s0) (0,0)).1 - (x.1.getD (yby (s0 - 1)) (0,0)).1)*(x.2.1+x.2.2))):yZT)=(zaE x)))))))))))))))))))))))
theorem e17 (x:Ds k17.args):vcFun cx17 f17 k17 x=V17 x:=by kernel_rfl
def cx18:Cx:=mkCx TK 12 [] [] [] [] [] [] [] none
def V18 (x:Int × Int):Prop:=(Z.in64 (x.1+x.2)/\(Z.in64 ((x.1+x.2) - 1)/\((((x.2:Int)≠0)/\Z.in64 (ydv ((x.1+x.2) - 1) x.2))/\(((ydv ((x.1+x.2) - 1) x.2):Int)=(zaZ x)))))
theorem e18 (x:Ds k18.args):vcFun cx18 f18 k18 x=V18 x:=by kernel_rfl
def cx19:Cx:=mkCx TK 8 [] [] [] [] [] [] [] none
def V19 (x:Int × Int):Prop:=((((x.2:Int)≠0)/\Z.in64 (ydv x.1 x.2))/\(((ydv x.1 x.2):Int)=(zax x)))
theorem e19 (x:Ds k19.args):vcFun cx19 f19 k19 x=V19 x:=by kernel_rfl
def cx12:Cx:=mkCx TK 51 [(14,k14),(15,k15)] [] [] [] [] [] [] none
def V12 (x:Unit):Prop:=((zdZ ((((yaa 2 ((0,0),(0,0),0,0)).set 0 ((10,20),(900,950),0,0)).set 1 ((100,150),(0,0),100,120)),(((yaa 2 (0,0,0)).set 0 (0,600,600)).set 1 (1,500,510))))/\((zdF ((((yaa 2 (0,0)).set 0 (0,0)).set 1 (1000,200)),(420,420),(580,580),4,[],(0,0),(0,0),0))/\(((((((((zbp ((((yaa 2 ((0,0),(0,0),0,0)).set 0 ((10,20),(900,950),0,0)).set 1 ((100,150),(0,0),100,120)),(((yaa 2 (0,0,0)).set 0 (0,600,600)).set 1 (1,500,510)))).1).1==528)&&(((zbp ((((yaa 2 ((0,0),(0,0),0,0)).set 0 ((10,20),(900,950),0,0)).set 1 ((100,150),(0,0),100,120)),(((yaa 2 (0,0,0)).set 0 (0,600,600)).set 1 (1,500,510)))).1).2==583))&&((zbp ((((yaa 2 ((0,0),(0,0),0,0)).set 0 ((10,20),(900,950),0,0)).set 1 ((100,150),(0,0),100,120)),(((yaa 2 (0,0,0)).set 0 (0,600,600)).set 1 (1,500,510)))).2==0))&&((((zaI ((((yaa 2 (0,0)).set 0 (0,0)).set 1 (1000,200)),(420,420),(580,580),4,[],(0,0),(0,0),0)).1).1==80)&&(((zaI ((((yaa 2 (0,0)).set 0 (0,0)).set 1 (1000,200)),(420,420),(580,580),4,[],(0,0),(0,0),0)).1).2==88)))&&((zaI ((((yaa 2 (0,0)).set 0 (0,0)).set 1 (1000,200)),(420,420),(580,580),4,[],(0,0),(0,0),0)).2==0)):Bool)=(zbY x))))
theorem e12 (x:Ds k12.args):vcFun cx12 f12 k12 x=V12 x:=by kernel_rfl
def cx16:Cx:=mkCx TK 24 [] [] [] [] [] [] [] none
def V16 (x:(Int × Int) × Int × List Int):Prop:=((((x.2.2.length:Int):Int)≠0)/\(((0:Int)<=(ydA x.2.1 (x.2.2.length:Int))/\((ydA x.2.1 (x.2.2.length:Int)):Int)<(x.2.2.length:Int))/\(Z.in64 (x.1.2 - x.1.1)/\(Z.in64 ((x.1.2 - x.1.1)+1)/\(((((x.1.2 - x.1.1)+1):Int)≠0)/\(Z.in64 (x.1.1+(ydA (Go.IntKind.wrap .i64 (x.2.2.getD (yby (ydA x.2.1 (x.2.2.length:Int))) 0)) ((x.1.2 - x.1.1)+1)))/\(((x.1.1+(ydA (Go.IntKind.wrap .i64 (x.2.2.getD (yby (ydA x.2.1 (x.2.2.length:Int))) 0)) ((x.1.2 - x.1.1)+1))):Int)=(zah x))))))))
theorem e16 (x:Ds k16.args):vcFun cx16 f16 k16 x=V16 x:=by kernel_rfl
def cx3:Cx:=mkCx TK 261 [(9,k9),(10,k10),(11,k11),(12,k12),(13,k13),(14,k14),(15,k15),(16,k16),(17,k17),(18,k18),(19,k19)] [] [] [] [] [(5,⟨[(11,false),(12,false)],[],[],[]⟩),(19,⟨[(21,false),(22,false),(23,false)],[],[13,15,17,18],[]⟩)] [] none
def V3 (x:(List yZS) × (List yZQ) × (List (Int × Int)) × Int × List Int):Prop:=(((((x.2.2.2.2.length:Int)==0)=false)->(zeB x.1))/\((((((x.2.2.2.2.length:Int)==0)||(!(zbE x.1)))=false)->(zeC (x.1,x.2.1)))/\(((((((x.2.2.2.2.length:Int)==0)||(!(zbE x.1)))||(!(zcf (x.1,x.2.1))))=false)->(zeA x.2.2.1))/\((((((((x.2.2.2.2.length:Int)==0)||(!(zbE x.1)))||(!(zcf (x.1,x.2.1))))||(!(zce x.2.2.1)))=true)->((zby ())/\(((zbY ()):Bool)=(zbh x))))/\(((((((x.2.2.2.2.length:Int)==0)||(!(zbE x.1)))||(!(zcf (x.1,x.2.1))))||(!(zce x.2.2.1)))=false)->Z.LoopP (X:=yZT) ((0,0)) (fun s0 K0=>(((decide ((s0.2:Int)<(x.2.1.length:Int))=true)->(((0:Int)<=s0.2/\(s0.2:Int)<(x.2.1.length:Int))/\(Z.in64 (s0.1+((x.2.1.getD (yby s0.2) (0,0,0)).2).2)/\(Z.in64 (s0.2+1)/\(K0 ((s0.1+((x.2.1.getD (yby s0.2) (0,0,0)).2).2),(s0.2+1)))))))/\((decide ((s0.2:Int)<(x.2.1.length:Int))=false)->((zfC (x.1,x.2.1))/\((zdZ (x.1,x.2.1))/\(((((!((gK x).2==0))||(!((hK x).2==0)))=true)->((false:Bool)=(zbh x)))/\((((!((gK x).2==0))||(!((hK x).2==0)))=false)->((((decide ((2000:Int)<s0.1)||decide ((((((gK x).1).2).1).1:Int)<1))=true)->((zby ())/\(((zbY ()):Bool)=(zbh x))))/\(((decide ((2000:Int)<s0.1)||decide ((((((gK x).1).2).1).1:Int)<1))=false)->(((201:Int)≠0)/\((zdF (x.2.2.1,(((gK x).1).2).1,(((((gK x).1).2).2).2).1,(tK x),[],(0,0),(0,0),0))/\Z.LoopP (X:=yZP) ((0,0,0)) (fun s1 K1=>(((decide ((s1.2.2:Int)<(x.2.1.length:Int))=true)->(((0:Int)<=s1.2.2/\(s1.2.2:Int)<(x.2.1.length:Int))/\(((0:Int)<=(tkK x s1.2.2).1/\((tkK x s1.2.2).1:Int)<(x.1.length:Int))/\(Z.in64 (3*(tkK x s1.2.2).1)/\((zaK ((skK x s1.2.2).1,(3*(tkK x s1.2.2).1),x.2.2.2.2))/\(((0:Int)<=(tkK x s1.2.2).1/\((tkK x s1.2.2).1:Int)<(x.1.length:Int))/\(Z.in64 (3*(tkK x s1.2.2).1)/\(Z.in64 ((3*(tkK x s1.2.2).1)+1)/\((zaK (((skK x s1.2.2).2).1,((3*(tkK x s1.2.2).1)+1),x.2.2.2.2))/\(((0:Int)<=(tkK x s1.2.2).1/\((tkK x s1.2.2).1:Int)<(x.1.length:Int))/\(Z.in64 (3*(tkK x s1.2.2).1)/\(Z.in64 ((3*(tkK x s1.2.2).1)+2)/\((zaK (((skK x s1.2.2).2).2,((3*(tkK x s1.2.2).1)+2),x.2.2.2.2))/\(((0:Int)<=s1.2.2/\(s1.2.2:Int)<(x.2.1.length:Int))/\(Z.in64 (5*s1.2.2)/\(Z.in64 ((5*s1.2.2)+2)/\((zaK ((tkK x s1.2.2).2,((5*s1.2.2)+2),x.2.2.2.2))/\(Z.in64 (1000 - (wK x s1.2.2))/\(Z.in64 ((mK x s1.2.2)*(1000 - (wK x s1.2.2)))/\(Z.in64 (((mK x s1.2.2)*(1000 - (wK x s1.2.2)))*(cK x s1.2.2))/\(Z.in64 ((((mK x s1.2.2)*(1000 - (wK x s1.2.2)))*(cK x s1.2.2))*1000)/\(Z.in64 (s1.1+((((mK x s1.2.2)*(1000 - (wK x s1.2.2)))*(cK x s1.2.2))*1000))/\(Z.in64 (1000 - (wK x s1.2.2))/\(Z.in64 ((mK x s1.2.2)*(1000 - (wK x s1.2.2)))/\(Z.in64 (1000 - (cK x s1.2.2))/\(Z.in64 (((mK x s1.2.2)*(1000 - (wK x s1.2.2)))*(1000 - (cK x s1.2.2)))/\(Z.in64 (1000 - (lK x s1.2.2))/\(Z.in64 ((((mK x s1.2.2)*(1000 - (wK x s1.2.2)))*(1000 - (cK x s1.2.2)))*(1000 - (lK x s1.2.2)))/\(Z.in64 (s1.2.1+((((mK x s1.2.2)*(1000 - (wK x s1.2.2)))*(1000 - (cK x s1.2.2)))*(1000 - (lK x s1.2.2))))/\(Z.in64 (s1.2.2+1)/\((((gK x).1:yZN)=(gK x).1)/\((((hK x).1:yZT)=(hK x).1)/\(((((((gK x).1).2).1,(((((gK x).1).2).2).2).1,(tK x),[],(0,0),(0,0),0):(Prod yZT (Prod yZT (Prod Int (Prod (List (Prod yZT yZT)) (Prod yZT yZK))))))=((((gK x).1).2).1,(((((gK x).1).2).2).2).1,(tK x),[],(0,0),(0,0),0))/\((((bK x).1:yZT)=(bK x).1)/\(K1 ((s1.1+((((mK x s1.2.2)*(1000 - (wK x s1.2.2)))*(cK x s1.2.2))*1000)),(s1.2.1+((((mK x s1.2.2)*(1000 - (wK x s1.2.2)))*(1000 - (cK x s1.2.2)))*(1000 - (lK x s1.2.2)))),(s1.2.2+1)))))))))))))))))))))))))))))))))))))/\((decide ((s1.2.2:Int)<(x.2.1.length:Int))=false)->((zdJ (x.2.2.1,s1.1,s1.2.1))/\((zdI (aK x s1.1 s1.2.1))/\(Z.in64 ((uK x s1.1 s1.2.1) - (tK x))/\((zcN (aK x s1.1 s1.2.1))/\(Z.in64 ((dK x s1.1 s1.2.1)+(tK x))/\(((decide ((((dK x s1.1 s1.2.1)+(tK x)):Int)<((uK x s1.1 s1.2.1) - (tK x)))=true)->((zby ())/\(((zbY ()):Bool)=(zbh x))))/\((decide ((((dK x s1.1 s1.2.1)+(tK x)):Int)<((uK x s1.1 s1.2.1) - (tK x)))=false)->(((0:Int)<=0/\(0:Int)<(x.2.2.2.2.length:Int))/\(Z.in64 (((dK x s1.1 s1.2.1)+(tK x)) - ((uK x s1.1 s1.2.1) - (tK x)))/\(Z.in64 ((((dK x s1.1 s1.2.1)+(tK x)) - ((uK x s1.1 s1.2.1) - (tK x)))+1)/\(((((((dK x s1.1 s1.2.1)+(tK x)) - ((uK x s1.1 s1.2.1) - (tK x)))+1):Int)≠0)/\(Z.in64 (nK x s1.1 s1.2.1)/\((((decide (((nK x s1.1 s1.2.1):Int)<0)||decide ((200:Int)<(nK x s1.1 s1.2.1)))=true)->((zby ())/\(((zbY ()):Bool)=(zbh x))))/\(((decide (((nK x s1.1 s1.2.1):Int)<0)||decide ((200:Int)<(nK x s1.1 s1.2.1)))=false)->((((((!((bK x).2==0))||decide (((nK x s1.1 s1.2.1):Int)<((bK x).1).1))||decide ((((bK x).1).2:Int)<(nK x s1.1 s1.2.1)))=true)->((false:Bool)=(zbh x)))/\(((((!((bK x).2==0))||decide (((nK x s1.1 s1.2.1):Int)<((bK x).1).1))||decide ((((bK x).1).2:Int)<(nK x s1.1 s1.2.1)))=false)->(Z.in64 (1000 - ((hK x).1).1)/\((zdJ (x.2.2.1,((hK x).1).1,(1000 - ((hK x).1).1)))/\(Z.in64 (1000 - ((hK x).1).2)/\((zdJ (x.2.2.1,((hK x).1).2,(1000 - ((hK x).1).2)))/\((zcN (zaE (x.2.2.1,((hK x).1).1,(1000 - ((hK x).1).1))))/\((zdI (aK x s1.1 s1.2.1))/\(((decide (((zax (zaE (x.2.2.1,((hK x).1).1,(1000 - ((hK x).1).1)))):Int)<=(uK x s1.1 s1.2.1))=true)->(zdI (zaE (x.2.2.1,((hK x).1).2,(1000 - ((hK x).1).2)))))/\(((decide (((zax (zaE (x.2.2.1,((hK x).1).1,(1000 - ((hK x).1).1)))):Int)<=(uK x s1.1 s1.2.1))=true)->(zcN (aK x s1.1 s1.2.1)))/\((((decide (((zax (zaE (x.2.2.1,((hK x).1).1,(1000 - ((hK x).1).1)))):Int)<=(uK x s1.1 s1.2.1))&&decide (((dK x s1.1 s1.2.1):Int)<=(zaZ (zaE (x.2.2.1,((hK x).1).2,(1000 - ((hK x).1).2))))))=true)->(zby ()))/\((((decide (((zax (zaE (x.2.2.1,((hK x).1).1,(1000 - ((hK x).1).1)))):Int)<=(uK x s1.1 s1.2.1))&&decide (((dK x s1.1 s1.2.1):Int)<=(zaZ (zaE (x.2.2.1,((hK x).1).2,(1000 - ((hK x).1).2))))))&&(zbY ())):Bool)=(zbh x))))))))))))))))))))))))))))))))))))))))))))))
theorem e3 (x:Ds k3.args):vcFun cx3 f3 k3 x=V3 x:=by kernel_rfl
end Go.Tt
