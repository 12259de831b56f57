/-
  Shade: what each function gives. No program in sight.
-/
import Derived.Test.YtdhdklojcppfcaaTtMix
import Derived.Test.YtdhdklojcppfcaaProg
set_option linter.all false
set_option maxRecDepth 100000
open Bool renaming and_eq_true->yac
open Int renaming eq_ofNat_of_zero_le->ydw,fdiv->ydu,fdiv_eq_ediv_of_nonneg->yaS,le_refl->ydy,natAbs_tdiv_le_natAbs->ydz,tdiv->ydv,toNat->yby,toNat_natCast->ydx
open List renaming all_eq_true->ycT,drop_eq_nil_of_le->ydc,length_append->yao,length_cons->ybT,map_cons->ybB,range->yaf,replicate->yaa
open Go.Proofs.Try
namespace Go.Tt
open Go Go.Sx
abbrev Tint:=Int × Int
abbrev Stroke:=Span × Span
abbrev Leads:=Span × Span × Int × (List Stroke) × Span × Span × Int
abbrev Shade:=Span × Span × Span
abbrev Mix:=(List Tint) × Int × Int
abbrev Batch:=Leads × Span
abbrev gram:Int:=1073741824
def tintB (c:List Tint) (i:Nat):Bool:=inB (c.getD i (0,0)).2 0 200&&(i==0||(decide ((c.getD (i - 1) (0,0)).1<(c.getD i (0,0)).1)&&decide ((c.getD (i - 1) (0,0)).2<=(c.getD i (0,0)).2)))
def curveB (c:List Tint):Bool:=((inB (c.length:Int) 2 8&&(c.getD 0 (0,0)).1==0)&&(c.getD (c.length - 1) (0,0)).1==1000)&&(yaf c.length).all (tintB c)
def strokeB (s:Stroke):Bool:=spanB s.1 0 1000&&spanB s.2 1 4000
def leadsB (l:Leads):Bool:=(((spanB l.1 1 gram&&spanB l.2.1 0 gram)&&inB l.2.2.1 0 200)&&((spanB l.2.2.2.2.1 0 10000&&spanB l.2.2.2.2.2.1 0 10000)&&inB l.2.2.2.2.2.2 0 topN))&&decide ((l.2.2.2.1.length:Int)<=6)&&l.2.2.2.1.all strokeB
structure MixOk (m:Mix):Prop where
 curve:curveB m.1=true
 g:1<=m.2.1/\m.2.1<=gram
 c:0<=m.2.2/\m.2.2<=gram
def srch (f:Int->Bool):Nat->Int->Int->Int
 | 0,i,_=>i
 | n+1,i,j=>cond (decide (i<j)) (cond (f (ydu (i+j) 2)) (srch f n i (ydu (i+j) 2)) (srch f n (ydu (i+j) 2+1) j)) i
def zam (x:Int × Int × Int):Bool:=inB x.1 x.2.1 x.2.2
def zbR (_:Int × Int × Int):Prop:=True
def zan (x:Span × Int × Int):Bool:=spanB x.1 x.2.1 x.2.2
def zbm (_:Span × Int × Int):Prop:=True
def zbM (x:List Tint):Bool:=curveB x
def zdX (_:List Tint):Prop:=True
def zcj (x:Stroke):Bool:=!strokeB x
def zci (_:Stroke):Prop:=True
def zal (x:(List Stroke) × Fun Stroke Bool):Int:=ixF x.2.val x.1 0
def zaT (x:(List Stroke) × Fun Stroke Bool):Prop:=x.1.length<=big/\∀ a∈x.1,x.2.pre a
def zav (x:(List Stroke) × Fun Stroke Bool):Bool:=x.1.any x.2.val
def zaM (x:(List Stroke) × Fun Stroke Bool):Prop:=x.1.length<=big/\∀ a∈x.1,x.2.pre a
def zap (x:(List Leads) × Fun Leads Bool):Int:=ixF x.2.val x.1 0
def zaW (x:(List Leads) × Fun Leads Bool):Prop:=x.1.length<=big/\∀ a∈x.1,x.2.pre a
def zak (x:(List Leads) × Fun Leads Bool):Bool:=x.1.any x.2.val
def zaR (x:(List Leads) × Fun Leads Bool):Prop:=x.1.length<=big/\∀ a∈x.1,x.2.pre a
def zdE (x:Leads):Bool:=leadsB x
def zdW (_:Leads):Prop:=True
def zcT (x:Leads):Bool:=!leadsB x
def zcM (_:Leads):Prop:=True
def reachB (m:Mix) (i:Int):Bool:=decide (1000*m.2.1<=(m.1.getD (i+1).toNat (0,0)).1*(m.2.1+m.2.2))
def zcs (x:Mix × Int):Bool:=reachB x.1 x.2
def zcS (x:Mix × Int):Prop:=MixOk x.1/\0<=x.2/\x.2+1<(x.1.1.length:Int)
abbrev reachF (m:Mix):Fun Int Bool:=⟨fun i=>zcS (m,i),fun i=>zcs (m,i)⟩
def zaH (x:Int × Fun Int Bool):Int:=srch x.2.val x.1.toNat 0 x.1
def zbK (x:Int × Fun Int Bool):Prop:=(0<=x.1/\x.1<=1152921504606846976)/\∀ i,0<=i->i<x.1->x.2.pre i
abbrev cutS (m:Mix):Int:=zaH ((m.1.length:Int) - 2,reachF m)
def zaj (x:Int × Int):Int:=ydv x.1 x.2
def ratioOk (x:Int × Int):Prop:=(1<=x.2/\x.2<=1125899906842624)/\-1125899906842624<=x.1/\x.1<=1125899906842624
def zch (x:Int × Int):Prop:=ratioOk x
def zar (x:Int × Int):Int:=ydv (x.1+x.2 - 1) x.2
def zcI (x:Int × Int):Prop:=ratioOk x
abbrev aS (m:Mix):Tint:=m.1.getD (cutS m).toNat (0,0)
abbrev bS (m:Mix):Tint:=m.1.getD (cutS m+1).toNat (0,0)
def zad (x:Mix):Int × Int:=((aS x).2*((bS x).1 - (aS x).1)*(x.2.1+x.2.2)+((bS x).2 - (aS x).2)*(1000*x.2.1 - (aS x).1*(x.2.1+x.2.2)),((bS x).1 - (aS x).1)*(x.2.1+x.2.2))
def zct (x:Mix):Prop:=MixOk x
def boundsR (x:(List Tint) × Leads):Span:=(zar (zad (x.1,x.2.1.1,x.2.2.1.2)) - x.2.2.2.1,zaj (zad (x.1,x.2.1.2,x.2.2.1.1))+x.2.2.2.1)
def zca (x:(List Tint) × Leads):Span:=boundsR x
def zcE (x:(List Tint) × Leads):Prop:=curveB x.1=true/\leadsB x.2=true
def boundsS (x:Stroke):Span:=(zar (1000*x.1.1,x.2.2),zaj (1000*x.1.2,x.2.1))
def zbZ (x:Stroke):Span:=boundsS x
def zcD (x:Stroke):Prop:=strokeB x=true
abbrev Src:=Fun Unit Span × Unit
abbrev zeroS:Src:=(⟨fun _=>False,fun _=>(0,0)⟩,())
abbrev recipeS (x:(List Tint) × Leads):Src:=(⟨fun _=>zcE (x.1,x.2),fun _=>zca (x.1,x.2)⟩,())
abbrev strokeS (s:Stroke):Src:=(⟨fun _=>zcD s,fun _=>zbZ s⟩,())
def meet (a b:Span):Span:=(max a.1 b.1,min a.2 b.2)
def blackB (x:(List Tint) × Leads):Span:=(boundsR x::x.2.2.2.2.1.map boundsS).foldl meet (0,200)
def zbj (x:(List Tint) × Leads):Span:=blackB x
def zdY (x:(List Tint) × Leads):Prop:=curveB x.1=true/\leadsB x.2=true
def openL (c:List Tint):List Leads->List Batch->(List Batch) × Int
 | [],r=>(r,0)
 | l::s,r=>cond (decide ((blackB (c,l)).2<(blackB (c,l)).1)) ([],6) (openL c s (r++[(l,blackB (c,l))]))
def zaw (x:(List Tint) × (List Leads) × Int × Bool):(List Batch) × Int:=cond (!curveB x.1) ([],1) (cond (decide (x.2.2.1<(x.2.1.length:Int))) ([],3) (cond (!x.2.2.2||x.2.1.any fun l=>!leadsB l) ([],2) (openL x.1 x.2.1 [])))
def zfB (x:(List Tint) × (List Leads) × Int × Bool):Prop:=x.2.2.1<=100
def blackV (c:List Tint) (l:Leads):Span × Int:=cond (!curveB c) ((0,0),1) (cond (!leadsB l) ((0,0),2) (cond (decide ((blackB (c,l)).2<(blackB (c,l)).1)) ((0,0),6) (blackB (c,l),0)))
def zaI (x:(List Tint) × Leads):Span × Int:=blackV x.1 x.2
def zdF (_:(List Tint) × Leads):Prop:=True
end Go.Tt
/- Written by a program of mine (wip/tools/gen.py): contexts and conditions of functions. -/
set_option maxHeartbeats 4000000
namespace Go.Tt
open Go Go.Sx
def TS:Tabs:={
 tyL:=[(3,I),(4,.bo),(24,(.sl (.st (.p I I)))),(31,(.st (.p I I))),(36,I),(41,(.sl (.st (.p (.st (.p I I)) (.st (.p I I)))))),(43,(.st (.p (.st (.p I I)) (.p (.st (.p I I)) (.p I (.p (.sl (.st (.p (.st (.p I I)) (.st (.p I I))))) (.p (.st (.p I I)) (.p (.st (.p I I)) I)))))))),(54,(.sl (.st (.p (.st (.p I I)) (.p (.st (.p I I)) (.p I (.p (.sl (.st (.p (.st (.p I I)) (.st (.p I I))))) (.p (.st (.p I I)) (.p (.st (.p I I)) I))))))))),(55,(.sl (.st (.p (.st (.p I I)) (.p (.st (.p I I)) (.st (.p I I))))))),(56,(.sl I)),(68,(.st (.p (.st (.p I I)) (.p (.st (.p I I)) (.st (.p I I)))))),(121,(.st (.p I I))),(135,(.f1 I .bo)),(136,(.sl (.st (.p (.st (.p (.st (.p I I)) (.p (.st (.p I I)) (.p I (.p (.sl (.st (.p (.st (.p I I)) (.st (.p I I))))) (.p (.st (.p I I)) (.p (.st (.p I I)) I))))))) (.st (.p I I)))))),(140,(.st (.p (.st (.p (.st (.p I I)) (.p (.st (.p I I)) (.p I (.p (.sl (.st (.p (.st (.p I I)) (.st (.p I I))))) (.p (.st (.p I I)) (.p (.st (.p I I)) I))))))) (.st (.p I I))))),(142,(.st (.p (.st (.p I I)) (.st (.p I I))))),(143,(.f1 (.st (.p (.st (.p I I)) (.p (.st (.p I I)) (.st (.p I I))))) .bo)),(222,(.i .u64)),(224,(.f1 (.st (.p (.st (.p I I)) (.p (.st (.p I I)) (.p I (.p (.sl (.st (.p (.st (.p I I)) (.st (.p I I))))) (.p (.st (.p I I)) (.p (.st (.p I I)) I))))))) .bo)),(265,(.st (.p (.sl (.st (.p I I))) (.st (.p (.st (.p I I)) (.p (.st (.p I I)) (.p I (.p (.sl (.st (.p (.st (.p I I)) (.st (.p I I))))) (.p (.st (.p I I)) (.p (.st (.p I I)) I)))))))))),(266,(.sl (.im "pencilworks/shade.bounds" .u (.st (.p I I)) .u))),(268,(.st (.st (.p (.st (.p I I)) (.st (.p I I)))))),(270,(.im "pencilworks/shade.bounds" .u (.st (.p I I)) .u)),(299,(.f1 (.st (.p (.st (.p I I)) (.st (.p I I)))) .bo)),(342,(.st (.p I I))),(344,(.st (.p (.sl (.st (.p I I))) (.p I I))))],
 elL:=[(24,121),(41,142),(54,43),(55,68),(56,3),(136,140),(266,270)],
 oneL:=[24,41],
 mtyL:=[(122,(3,221)),(123,(3,221)),(147,(153,3)),(148,(153,3)),(249,(3,4)),(282,(4,281))],
 mthL:=[((265, "pencilworks/shade.bounds"),255),((268, "pencilworks/shade.bounds"),260)] }
def k134:Con:={ args:=[I,I,I],res:=[.bo],pre:=zbR,val:=zam }
def k68:Con:={ args:=[(.st (.p I I)),I,I],res:=[.bo],pre:=zbm,val:=zan }
def k69:Con:={ args:=[(.sl (.st (.p I I)))],res:=[.bo],pre:=zdX,val:=zbM }
def k203:Con:={ args:=[(.st (.p (.st (.p I I)) (.st (.p I I))))],res:=[.bo],pre:=zci,val:=zcj }
def k214:Con:={ args:=[(.sl (.st (.p (.st (.p I I)) (.st (.p I I))))),(.f1 (.st (.p (.st (.p I I)) (.st (.p I I)))) .bo)],res:=[I],pre:=zaT,val:=zal }
def k204:Con:={ args:=[(.sl (.st (.p (.st (.p I I)) (.st (.p I I))))),(.f1 (.st (.p (.st (.p I I)) (.st (.p I I)))) .bo)],res:=[.bo],pre:=zaM,val:=zav }
def k179:Con:={ args:=[(.st (.p (.st (.p I I)) (.p (.st (.p I I)) (.p I (.p (.sl (.st (.p (.st (.p I I)) (.st (.p I I))))) (.p (.st (.p I I)) (.p (.st (.p I I)) I)))))))],res:=[.bo],pre:=zdW,val:=zdE }
def k132:Con:={ args:=[(.st (.p (.st (.p I I)) (.p (.st (.p I I)) (.p I (.p (.sl (.st (.p (.st (.p I I)) (.st (.p I I))))) (.p (.st (.p I I)) (.p (.st (.p I I)) I)))))))],res:=[.bo],pre:=zcM,val:=zcT }
def k178:Con:={ args:=[(.sl (.st (.p (.st (.p I I)) (.p (.st (.p I I)) (.p I (.p (.sl (.st (.p (.st (.p I I)) (.st (.p I I))))) (.p (.st (.p I I)) (.p (.st (.p I I)) I)))))))),(.f1 (.st (.p (.st (.p I I)) (.p (.st (.p I I)) (.p I (.p (.sl (.st (.p (.st (.p I I)) (.st (.p I I))))) (.p (.st (.p I I)) (.p (.st (.p I I)) I))))))) .bo)],res:=[I],pre:=zaW,val:=zap }
def k131:Con:={ args:=[(.sl (.st (.p (.st (.p I I)) (.p (.st (.p I I)) (.p I (.p (.sl (.st (.p (.st (.p I I)) (.st (.p I I))))) (.p (.st (.p I I)) (.p (.st (.p I I)) I)))))))),(.f1 (.st (.p (.st (.p I I)) (.p (.st (.p I I)) (.p I (.p (.sl (.st (.p (.st (.p I I)) (.st (.p I I))))) (.p (.st (.p I I)) (.p (.st (.p I I)) I))))))) .bo)],res:=[.bo],pre:=zaR,val:=zak }
def k259:Con:={ args:=[(.st (.p (.sl (.st (.p I I))) (.p I I))),I],res:=[.bo],pre:=zcS,val:=zcs }
def k258:Con:={ args:=[(.st (.p I I))],res:=[I],pre:=zch,val:=zaj }
def k257:Con:={ args:=[(.st (.p I I))],res:=[I],pre:=zcI,val:=zar }
def k62:Con:={ args:=[I,(.f1 I .bo)],res:=[I],pre:=zbK,val:=zaH }
def k256:Con:={ args:=[(.st (.p (.sl (.st (.p I I))) (.p I I)))],res:=[(.st (.p I I))],pre:=zct,val:=zad }
def k255:Con:={ args:=[(.st (.p (.sl (.st (.p I I))) (.st (.p (.st (.p I I)) (.p (.st (.p I I)) (.p I (.p (.sl (.st (.p (.st (.p I I)) (.st (.p I I))))) (.p (.st (.p I I)) (.p (.st (.p I I)) I)))))))))],res:=[(.st (.p I I))],pre:=zcE,val:=zca }
def k260:Con:={ args:=[(.st (.st (.p (.st (.p I I)) (.st (.p I I)))))],res:=[(.st (.p I I))],pre:=zcD,val:=zbZ }
def k133:Con:={ args:=[(.sl (.st (.p I I))),(.st (.p (.st (.p I I)) (.p (.st (.p I I)) (.p I (.p (.sl (.st (.p (.st (.p I I)) (.st (.p I I))))) (.p (.st (.p I I)) (.p (.st (.p I I)) I)))))))],res:=[(.st (.p I I))],pre:=zdY,val:=zbj }
def k66:Con:={ args:=[(.sl (.st (.p I I))),(.sl (.st (.p (.st (.p I I)) (.p (.st (.p I I)) (.p I (.p (.sl (.st (.p (.st (.p I I)) (.st (.p I I))))) (.p (.st (.p I I)) (.p (.st (.p I I)) I)))))))),I,.bo],res:=[(.sl (.st (.p (.st (.p (.st (.p I I)) (.p (.st (.p I I)) (.p I (.p (.sl (.st (.p (.st (.p I I)) (.st (.p I I))))) (.p (.st (.p I I)) (.p (.st (.p I I)) I))))))) (.st (.p I I))))),I],pre:=zfB,val:=zaw }
def k15:Con:={ args:=[(.sl (.st (.p I I))),(.st (.p (.st (.p I I)) (.p (.st (.p I I)) (.p I (.p (.sl (.st (.p (.st (.p I I)) (.st (.p I I))))) (.p (.st (.p I I)) (.p (.st (.p I I)) I)))))))],res:=[(.st (.p I I)),I],pre:=zdF,val:=zaI }
def cx134:Cx:=mkCx TS 15 [] [] [] [] [] [] [] none
abbrev yZZ:=(Prod (Prod Int Int) (Prod (Prod Int Int) (Prod Int (Prod (List (Prod (Prod Int Int) (Prod Int Int))) (Prod (Prod Int Int) (Prod (Prod Int Int) Int))))))
abbrev yZY:=((Int × Int) × (Int × Int) × Int × (List ((Int × Int) × Int × Int)) × (Int × Int) × (Int × Int) × Int)
abbrev yZX:=(Prod Int Int)
abbrev yZW:=((Int × Int) × Int × Int)
abbrev yZV:=(Prod (List (Prod yZZ yZX)) Int)
abbrev yZU:=(List (Int × Int))
def V134 (x:Int × Int × Int):Prop:=(((decide ((x.2.1:Int)<=x.1)&&decide ((x.1:Int)<=x.2.2)):Bool)=(zam x))
theorem e134 (x:Ds k134.args):vcFun cx134 f134 k134 x=V134 x:=by kernel_rfl
def cx68:Cx:=mkCx TS 24 [] [] [] [] [] [] [] none
def V68 (x:(Int × Int) × Int × Int):Prop:=((((decide ((x.2.1:Int)<=x.1.1)&&decide ((x.1.1:Int)<=x.1.2))&&decide ((x.1.2:Int)<=x.2.2)):Bool)=(zan x))
theorem e68 (x:Ds k68.args):vcFun cx68 f68 k68 x=V68 x:=by kernel_rfl
def cx69:Cx:=mkCx TS 64 [(134,k134)] [] [] [] [] [(4,⟨[(28,false)],[],[],[]⟩)] [] none
def V69 (x:List (Int × Int)):Prop:=((zbR ((x.length:Int),2,8))/\((((!(zam ((x.length:Int),2,8)))=false)->((0:Int)<=0/\(0:Int)<(x.length:Int)))/\(((((!(zam ((x.length:Int),2,8)))||(!((x.getD (yby 0) (0,0)).1==0)))=false)->Z.in64 ((x.length:Int) - 1))/\(((((!(zam ((x.length:Int),2,8)))||(!((x.getD (yby 0) (0,0)).1==0)))=false)->((0:Int)<=((x.length:Int) - 1)/\(((x.length:Int) - 1):Int)<(x.length:Int)))/\((((((!(zam ((x.length:Int),2,8)))||(!((x.getD (yby 0) (0,0)).1==0)))||(!((x.getD (yby ((x.length:Int) - 1)) (0,0)).1==1000)))=true)->((false:Bool)=(zbM x)))/\(((((!(zam ((x.length:Int),2,8)))||(!((x.getD (yby 0) (0,0)).1==0)))||(!((x.getD (yby ((x.length:Int) - 1)) (0,0)).1==1000)))=false)->Z.LoopP (X:=Int) (0) (fun s0 K0=>(((decide ((s0:Int)<(x.length:Int))=true)->(((0:Int)<=s0/\(s0:Int)<(x.length:Int))/\((zbR ((x.getD (yby s0) (0,0)).2,0,200))/\((((decide ((0:Int)<s0)=true)/\((!(zam ((x.getD (yby s0) (0,0)).2,0,200)))=false))->Z.in64 (s0 - 1))/\((((decide ((0:Int)<s0)=true)/\((!(zam ((x.getD (yby s0) (0,0)).2,0,200)))=false))->((0:Int)<=(s0 - 1)/\((s0 - 1):Int)<(x.length:Int)))/\((((decide (((x.getD (yby s0) (0,0)).1:Int)<=(x.getD (yby (s0 - 1)) (0,0)).1)=false)/\((decide ((0:Int)<s0)=true)/\((!(zam ((x.getD (yby s0) (0,0)).2,0,200)))=false)))->Z.in64 (s0 - 1))/\((((decide (((x.getD (yby s0) (0,0)).1:Int)<=(x.getD (yby (s0 - 1)) (0,0)).1)=false)/\((decide ((0:Int)<s0)=true)/\((!(zam ((x.getD (yby s0) (0,0)).2,0,200)))=false)))->((0:Int)<=(s0 - 1)/\((s0 - 1):Int)<(x.length:Int)))/\(((((!(zam ((x.getD (yby s0) (0,0)).2,0,200)))||(decide ((0:Int)<s0)&&(decide (((x.getD (yby s0) (0,0)).1:Int)<=(x.getD (yby (s0 - 1)) (0,0)).1)||decide (((x.getD (yby s0) (0,0)).2:Int)<(x.getD (yby (s0 - 1)) (0,0)).2))))=true)->((false:Bool)=(zbM x)))/\((((!(zam ((x.getD (yby s0) (0,0)).2,0,200)))||(decide ((0:Int)<s0)&&(decide (((x.getD (yby s0) (0,0)).1:Int)<=(x.getD (yby (s0 - 1)) (0,0)).1)||decide (((x.getD (yby s0) (0,0)).2:Int)<(x.getD (yby (s0 - 1)) (0,0)).2))))=false)->(Z.in64 (s0+1)/\(K0 (s0+1))))))))))))/\((decide ((s0:Int)<(x.length:Int))=false)->((true:Bool)=(zbM x)))))))))))
theorem e69 (x:Ds k69.args):vcFun cx69 f69 k69 x=V69 x:=by kernel_rfl
def cx203:Cx:=mkCx TS 13 [(68,k68)] [] [] [] [] [] [] none
def V203 (x:(Int × Int) × Int × Int):Prop:=((zbm (x.1,0,1000))/\((((!(zan (x.1,0,1000)))=false)->(zbm (x.2,1,4000)))/\((((!(zan (x.1,0,1000)))||(!(zan (x.2,1,4000)))):Bool)=(zcj x))))
theorem e203 (x:Ds k203.args):vcFun cx203 f203 k203 x=V203 x:=by kernel_rfl
def cx214:Cx:=mkCx TS 19 [] [] [] [] [] [(2,⟨[(8,false)],[],[],[]⟩)] [] none
def V214 (x:(List yZW) × Go.Sx.Fun yZW Bool):Prop:=Z.LoopP (X:=Int) (0) (fun s0 K0=>(((decide ((s0:Int)<(x.1.length:Int))=true)->(((0:Int)<=s0/\(s0:Int)<(x.1.length:Int))/\((x.2.pre (x.1.getD (yby s0) ((0,0),0,0)))/\((((x.2.val (x.1.getD (yby s0) ((0,0),0,0)))=true)->((s0:Int)=(zal x)))/\(((x.2.val (x.1.getD (yby s0) ((0,0),0,0)))=false)->(Z.in64 (s0+1)/\(K0 (s0+1))))))))/\((decide ((s0:Int)<(x.1.length:Int))=false)->(((-1):Int)=(zal x)))))
theorem e214 (x:Ds k214.args):vcFun cx214 f214 k214 x=V214 x:=by kernel_rfl
def cx204:Cx:=mkCx TS 9 [(214,k214)] [] [] [] [] [] [] none
def V204 (x:(List yZW) × Go.Sx.Fun yZW Bool):Prop:=((zaT (x.1,x.2))/\((decide ((0:Int)<=(zal (x.1,x.2))):Bool)=(zav x)))
theorem e204 (x:Ds k204.args):vcFun cx204 f204 k204 x=V204 x:=by kernel_rfl
def cx179:Cx:=mkCx TS 49 [(203,k203),(68,k68),(134,k134),(204,k204)] [] [] [] [] [] [] none
def V179 (x:(Int × Int) × (Int × Int) × Int × (List yZW) × (Int × Int) × (Int × Int) × Int):Prop:=((zbm (x.1,1,1073741824))/\((((zan (x.1,1,1073741824))=true)->(zbm (x.2.1,0,1073741824)))/\(((((zan (x.1,1,1073741824))&&(zan (x.2.1,0,1073741824)))=true)->(zbR (x.2.2.1,0,200)))/\((zbm (x.2.2.2.2.1,0,10000))/\((((zan (x.2.2.2.2.1,0,10000))=true)->(zbm (x.2.2.2.2.2.1,0,10000)))/\(((((zan (x.2.2.2.2.1,0,10000))&&(zan (x.2.2.2.2.2.1,0,10000)))=true)->(zbR (x.2.2.2.2.2.2,0,1048576)))/\((((((((zan (x.1,1,1073741824))&&(zan (x.2.1,0,1073741824)))&&(zam (x.2.2.1,0,200)))&&(((zan (x.2.2.2.2.1,0,10000))&&(zan (x.2.2.2.2.2.1,0,10000)))&&(zam (x.2.2.2.2.2.2,0,1048576))))&&decide (((x.2.2.2.1.length:Int):Int)<=6))=true)->(zaM (x.2.2.2.1,(⟨zci,zcj⟩:Go.Sx.Fun ((Prod yZX yZX)) (Bool)))))/\((((((((zan (x.1,1,1073741824))&&(zan (x.2.1,0,1073741824)))&&(zam (x.2.2.1,0,200)))&&(((zan (x.2.2.2.2.1,0,10000))&&(zan (x.2.2.2.2.2.1,0,10000)))&&(zam (x.2.2.2.2.2.2,0,1048576))))&&decide (((x.2.2.2.1.length:Int):Int)<=6))&&(!(zav (x.2.2.2.1,(⟨zci,zcj⟩:Go.Sx.Fun ((Prod yZX yZX)) (Bool)))))):Bool)=(zdE x)))))))))
theorem e179 (x:Ds k179.args):vcFun cx179 f179 k179 x=V179 x:=by kernel_rfl
def cx132:Cx:=mkCx TS 6 [(179,k179)] [] [] [] [] [] [] none
def V132 (x:(Int × Int) × (Int × Int) × Int × (List yZW) × (Int × Int) × (Int × Int) × Int):Prop:=((zdW x)/\(((!(zdE x)):Bool)=(zcT x)))
theorem e132 (x:Ds k132.args):vcFun cx132 f132 k132 x=V132 x:=by kernel_rfl
def cx178:Cx:=mkCx TS 19 [] [] [] [] [] [(2,⟨[(8,false)],[],[],[]⟩)] [] none
def V178 (x:(List yZY) × Go.Sx.Fun yZY Bool):Prop:=Z.LoopP (X:=Int) (0) (fun s0 K0=>(((decide ((s0:Int)<(x.1.length:Int))=true)->(((0:Int)<=s0/\(s0:Int)<(x.1.length:Int))/\((x.2.pre (x.1.getD (yby s0) ((0,0),(0,0),0,[],(0,0),(0,0),0)))/\((((x.2.val (x.1.getD (yby s0) ((0,0),(0,0),0,[],(0,0),(0,0),0)))=true)->((s0:Int)=(zap x)))/\(((x.2.val (x.1.getD (yby s0) ((0,0),(0,0),0,[],(0,0),(0,0),0)))=false)->(Z.in64 (s0+1)/\(K0 (s0+1))))))))/\((decide ((s0:Int)<(x.1.length:Int))=false)->(((-1):Int)=(zap x)))))
theorem e178 (x:Ds k178.args):vcFun cx178 f178 k178 x=V178 x:=by kernel_rfl
def cx131:Cx:=mkCx TS 9 [(178,k178)] [] [] [] [] [] [] none
def V131 (x:(List yZY) × Go.Sx.Fun yZY Bool):Prop:=((zaW (x.1,x.2))/\((decide ((0:Int)<=(zap (x.1,x.2))):Bool)=(zak x)))
theorem e131 (x:Ds k131.args):vcFun cx131 f131 k131 x=V131 x:=by kernel_rfl
def cx259:Cx:=mkCx TS 22 [] [] [] [] [] [] [] none
def V259 (x:(yZU × Int × Int) × Int):Prop:=(Z.in64 (x.2+1)/\(((0:Int)<=(x.2+1)/\((x.2+1):Int)<(x.1.1.length:Int))/\(Z.in64 (x.1.2.1+x.1.2.2)/\(Z.in64 ((x.1.1.getD (yby (x.2+1)) (0,0)).1*(x.1.2.1+x.1.2.2))/\(Z.in64 (1000*x.1.2.1)/\((decide (((1000*x.1.2.1):Int)<=((x.1.1.getD (yby (x.2+1)) (0,0)).1*(x.1.2.1+x.1.2.2))):Bool)=(zcs x)))))))
theorem e259 (x:Ds k259.args):vcFun cx259 f259 k259 x=V259 x:=by kernel_rfl
def cx258:Cx:=mkCx TS 8 [] [] [] [] [] [] [] none
def V258 (x:Int × Int):Prop:=((((x.2:Int)≠0)/\Z.in64 (ydv x.1 x.2))/\(((ydv x.1 x.2):Int)=(zaj x)))
theorem e258 (x:Ds k258.args):vcFun cx258 f258 k258 x=V258 x:=by kernel_rfl
def cx257:Cx:=mkCx TS 12 [] [] [] [] [] [] [] none
def V257 (x:Int × Int):Prop:=(Z.in64 (x.1+x.2)/\(Z.in64 ((x.1+x.2) - 1)/\((((x.2:Int)≠0)/\Z.in64 (ydv ((x.1+x.2) - 1) x.2))/\(((ydv ((x.1+x.2) - 1) x.2):Int)=(zar x)))))
theorem e257 (x:Ds k257.args):vcFun cx257 f257 k257 x=V257 x:=by kernel_rfl
def cx62:Cx:=mkCx TS 26 [] [] [] [] [] [(2,⟨[(5,false),(6,false)],[],[],[]⟩)] [] none
def V62 (x:Int × Go.Sx.Fun Int Bool):Prop:=Z.LoopP (X:=yZX) ((0,x.1)) (fun s0 K0=>(((decide ((s0.1:Int)<s0.2)=true)->(Z.in64 (s0.1+s0.2)/\(((0:Int)<=1/\(1:Int)<=64)/\((x.2.pre (Go.IntKind.wrap .i64 (ydu (Go.IntKind.wrap .u64 (s0.1+s0.2)) (2^(yby (1))))))/\((((!(x.2.val (Go.IntKind.wrap .i64 (ydu (Go.IntKind.wrap .u64 (s0.1+s0.2)) (2^(yby (1)))))))=true)->(Z.in64 ((Go.IntKind.wrap .i64 (ydu (Go.IntKind.wrap .u64 (s0.1+s0.2)) (2^(yby (1)))))+1)/\(K0 (((Go.IntKind.wrap .i64 (ydu (Go.IntKind.wrap .u64 (s0.1+s0.2)) (2^(yby (1)))))+1),s0.2))))/\(((!(x.2.val (Go.IntKind.wrap .i64 (ydu (Go.IntKind.wrap .u64 (s0.1+s0.2)) (2^(yby (1)))))))=false)->(K0 (s0.1,(Go.IntKind.wrap .i64 (ydu (Go.IntKind.wrap .u64 (s0.1+s0.2)) (2^(yby (1)))))))))))))/\((decide ((s0.1:Int)<s0.2)=false)->((s0.1:Int)=(zaH x)))))
theorem e62 (x:Ds k62.args):vcFun cx62 f62 k62 x=V62 x:=by kernel_rfl
def cx256:Cx:=mkCx TS 63 [(259,k259),(62,k62)] [] [] [] [] [] [] none
def V256 (x:yZU × Int × Int):Prop:=(Z.in64 (x.2.1+x.2.2)/\(Z.in64 ((x.1.length:Int) - 2)/\((zbK (((x.1.length:Int) - 2),(reachF x)))/\(((0:Int)<=(cutS x)/\((cutS x):Int)<(x.1.length:Int))/\(Z.in64 ((cutS x)+1)/\(((0:Int)<=((cutS x)+1)/\(((cutS x)+1):Int)<(x.1.length:Int))/\(Z.in64 ((x.1.getD (yby ((cutS x)+1)) (0,0)).1 - (x.1.getD (yby (cutS x)) (0,0)).1)/\(Z.in64 ((x.1.getD (yby (cutS x)) (0,0)).2*((x.1.getD (yby ((cutS x)+1)) (0,0)).1 - (x.1.getD (yby (cutS x)) (0,0)).1))/\(Z.in64 (((x.1.getD (yby (cutS x)) (0,0)).2*((x.1.getD (yby ((cutS x)+1)) (0,0)).1 - (x.1.getD (yby (cutS x)) (0,0)).1))*(x.2.1+x.2.2))/\(Z.in64 ((x.1.getD (yby ((cutS x)+1)) (0,0)).2 - (x.1.getD (yby (cutS x)) (0,0)).2)/\(Z.in64 (1000*x.2.1)/\(Z.in64 ((x.1.getD (yby (cutS x)) (0,0)).1*(x.2.1+x.2.2))/\(Z.in64 ((1000*x.2.1) - ((x.1.getD (yby (cutS x)) (0,0)).1*(x.2.1+x.2.2)))/\(Z.in64 (((x.1.getD (yby ((cutS x)+1)) (0,0)).2 - (x.1.getD (yby (cutS x)) (0,0)).2)*((1000*x.2.1) - ((x.1.getD (yby (cutS x)) (0,0)).1*(x.2.1+x.2.2))))/\(Z.in64 ((((x.1.getD (yby (cutS x)) (0,0)).2*((x.1.getD (yby ((cutS x)+1)) (0,0)).1 - (x.1.getD (yby (cutS x)) (0,0)).1))*(x.2.1+x.2.2))+(((x.1.getD (yby ((cutS x)+1)) (0,0)).2 - (x.1.getD (yby (cutS x)) (0,0)).2)*((1000*x.2.1) - ((x.1.getD (yby (cutS x)) (0,0)).1*(x.2.1+x.2.2)))))/\(Z.in64 (((x.1.getD (yby ((cutS x)+1)) (0,0)).1 - (x.1.getD (yby (cutS x)) (0,0)).1)*(x.2.1+x.2.2))/\(((((((x.1.getD (yby (cutS x)) (0,0)).2*((x.1.getD (yby ((cutS x)+1)) (0,0)).1 - (x.1.getD (yby (cutS x)) (0,0)).1))*(x.2.1+x.2.2))+(((x.1.getD (yby ((cutS x)+1)) (0,0)).2 - (x.1.getD (yby (cutS x)) (0,0)).2)*((1000*x.2.1) - ((x.1.getD (yby (cutS x)) (0,0)).1*(x.2.1+x.2.2))))),(((x.1.getD (yby ((cutS x)+1)) (0,0)).1 - (x.1.getD (yby (cutS x)) (0,0)).1)*(x.2.1+x.2.2))):yZX)=(zad x))))))))))))))))))
theorem e256 (x:Ds k256.args):vcFun cx256 f256 k256 x=V256 x:=by kernel_rfl
def cx255:Cx:=mkCx TS 42 [(256,k256),(257,k257),(258,k258)] [] [] [] [] [] [] none
def V255 (x:yZU × (Int × Int) × (Int × Int) × Int × (List yZW) × (Int × Int) × (Int × Int) × Int):Prop:=((zct (x.1,x.2.1.1,x.2.2.1.2))/\((zct (x.1,x.2.1.2,x.2.2.1.1))/\((zcI (zad (x.1,x.2.1.1,x.2.2.1.2)))/\(Z.in64 ((zar (zad (x.1,x.2.1.1,x.2.2.1.2))) - x.2.2.2.1)/\((zch (zad (x.1,x.2.1.2,x.2.2.1.1)))/\(Z.in64 ((zaj (zad (x.1,x.2.1.2,x.2.2.1.1)))+x.2.2.2.1)/\(((((zar (zad (x.1,x.2.1.1,x.2.2.1.2))) - x.2.2.2.1),((zaj (zad (x.1,x.2.1.2,x.2.2.1.1)))+x.2.2.2.1)):yZX)=(zca x))))))))
theorem e255 (x:Ds k255.args):vcFun cx255 f255 k255 x=V255 x:=by kernel_rfl
def cx260:Cx:=mkCx TS 26 [(257,k257),(258,k258)] [] [] [] [] [] [] none
def V260 (x:(Int × Int) × Int × Int):Prop:=(Z.in64 (1000*x.1.1)/\((zcI ((1000*x.1.1),x.2.2))/\(Z.in64 (1000*x.1.2)/\((zch ((1000*x.1.2),x.2.1))/\((((zar ((1000*x.1.1),x.2.2)),(zaj ((1000*x.1.2),x.2.1))):yZX)=(zbZ x))))))
theorem e260 (x:Ds k260.args):vcFun cx260 f260 k260 x=V260 x:=by kernel_rfl
def cx133:Cx:=mkCx TS 53 [(255,k255),(260,k260)] [] [] [] [] [(3,⟨[(5,true),(20,false)],[],[4],[]⟩),(9,⟨[(34,false)],[8],[100005,4],[]⟩)] [] none
def V133 (x:yZU × (Int × Int) × (Int × Int) × Int × (List yZW) × (Int × Int) × (Int × Int) × Int):Prop:=Z.LoopP (X:=(Prod (List (Prod (Go.Sx.Fun PUnit yZX) PUnit)) Int)) ((((yaa 1 zeroS).set 0 (recipeS x)),0)) (fun s0 K0=>(((decide ((s0.2:Int)<(x.2.2.2.2.1.length:Int))=true)->(((0:Int)<=s0.2/\(s0.2:Int)<(x.2.2.2.2.1.length:Int))/\(Z.roomy 1 ((s0.1++((yaa 1 zeroS).set 0 (strokeS (x.2.2.2.2.1.getD (yby s0.2) ((0,0),0,0))))).length:Int)/\(Z.in64 (s0.2+1)/\((((0,0):yZX)=(0,0))/\(K0 ((s0.1++((yaa 1 zeroS).set 0 (strokeS (x.2.2.2.2.1.getD (yby s0.2) ((0,0),0,0))))),(s0.2+1))))))))/\((decide ((s0.2:Int)<(x.2.2.2.2.1.length:Int))=false)->Z.LoopP (X:=(Prod Int yZX)) ((0,0,200)) (fun s13 K13=>(((decide ((s13.1:Int)<(s0.1.length:Int))=true)->(((0:Int)<=s13.1/\(s13.1:Int)<(s0.1.length:Int))/\((((s0.1.getD (yby s13.1) zeroS).1).pre ())/\(Z.in64 (s13.1+1)/\(((s0.1:(List (Prod (Go.Sx.Fun PUnit yZX) PUnit)))=s0.1)/\((((0,0):yZX)=(0,0))/\(K13 ((s13.1+1),(max s13.2.1 ((((s0.1.getD (yby s13.1) zeroS).1).val ()).1)),(min s13.2.2 ((((s0.1.getD (yby s13.1) zeroS).1).val ()).2))))))))))/\((decide ((s13.1:Int)<(s0.1.length:Int))=false)->((s13.2:yZX)=(zbj x))))))))
theorem e133 (x:Ds k133.args):vcFun cx133 f133 k133 x=V133 x:=by kernel_rfl
def cx66:Cx:=mkCx TS 53 [(69,k69),(131,k131),(132,k132),(133,k133)] [] [] [] [] [(8,⟨[(8,true),(31,false)],[],[],[]⟩)] [] none
def V66 (x:yZU × (List yZY) × Int × Bool):Prop:=((zdX x.1)/\((((!(zbM x.1))=true)->((([],1):yZV)=(zaw x)))/\(((!(zbM x.1))=false)->(((decide ((x.2.2.1:Int)<(x.2.1.length:Int))=true)->((([],3):yZV)=(zaw x)))/\((decide ((x.2.2.1:Int)<(x.2.1.length:Int))=false)->((((!x.2.2.2)=false)->(zaR (x.2.1,(⟨zcM,zcT⟩:Go.Sx.Fun (yZZ) (Bool)))))/\(((((!x.2.2.2)||(zak (x.2.1,(⟨zcM,zcT⟩:Go.Sx.Fun (yZZ) (Bool)))))=true)->((([],2):yZV)=(zaw x)))/\((((!x.2.2.2)||(zak (x.2.1,(⟨zcM,zcT⟩:Go.Sx.Fun (yZZ) (Bool)))))=false)->Z.LoopP (X:=yZV) (([],0)) (fun s0 K0=>(((decide ((s0.2:Int)<(x.2.1.length:Int))=true)->(((0:Int)<=s0.2/\(s0.2:Int)<(x.2.1.length:Int))/\((zdY (x.1,(x.2.1.getD (yby s0.2) ((0,0),(0,0),0,[],(0,0),(0,0),0))))/\(((decide (((zbj (x.1,(x.2.1.getD (yby s0.2) ((0,0),(0,0),0,[],(0,0),(0,0),0)))).2:Int)<(zbj (x.1,(x.2.1.getD (yby s0.2) ((0,0),(0,0),0,[],(0,0),(0,0),0)))).1)=true)->((([],6):yZV)=(zaw x)))/\((decide (((zbj (x.1,(x.2.1.getD (yby s0.2) ((0,0),(0,0),0,[],(0,0),(0,0),0)))).2:Int)<(zbj (x.1,(x.2.1.getD (yby s0.2) ((0,0),(0,0),0,[],(0,0),(0,0),0)))).1)=false)->(Z.roomy 13 ((s0.1++((yaa 1 (((0,0),(0,0),0,[],(0,0),(0,0),0),0,0)).set 0 ((x.2.1.getD (yby s0.2) ((0,0),(0,0),0,[],(0,0),(0,0),0)),(zbj (x.1,(x.2.1.getD (yby s0.2) ((0,0),(0,0),0,[],(0,0),(0,0),0))))))).length:Int)/\(Z.in64 (s0.2+1)/\(K0 ((s0.1++((yaa 1 (((0,0),(0,0),0,[],(0,0),(0,0),0),0,0)).set 0 ((x.2.1.getD (yby s0.2) ((0,0),(0,0),0,[],(0,0),(0,0),0)),(zbj (x.1,(x.2.1.getD (yby s0.2) ((0,0),(0,0),0,[],(0,0),(0,0),0))))))),(s0.2+1))))))))))/\((decide ((s0.2:Int)<(x.2.1.length:Int))=false)->(((s0.1,0):yZV)=(zaw x)))))))))))))
theorem e66 (x:Ds k66.args):vcFun cx66 f66 k66 x=V66 x:=by kernel_rfl
def cx15:Cx:=mkCx TS 23 [(66,k66)] [] [] [] [] [] [] none
def V15 (x:yZU × (Int × Int) × (Int × Int) × Int × (List yZW) × (Int × Int) × (Int × Int) × Int):Prop:=((zfB (x.1,((yaa 1 ((0,0),(0,0),0,[],(0,0),(0,0),0)).set 0 x.2),1,true))/\((((!((zaw (x.1,((yaa 1 ((0,0),(0,0),0,[],(0,0),(0,0),0)).set 0 x.2),1,true)).2==0))=true)->((((0,0),(zaw (x.1,((yaa 1 ((0,0),(0,0),0,[],(0,0),(0,0),0)).set 0 x.2),1,true)).2):(Prod yZX Int))=(zaI x)))/\(((!((zaw (x.1,((yaa 1 ((0,0),(0,0),0,[],(0,0),(0,0),0)).set 0 x.2),1,true)).2==0))=false)->(((0:Int)<=0/\(0:Int)<(((zaw (x.1,((yaa 1 ((0,0),(0,0),0,[],(0,0),(0,0),0)).set 0 x.2),1,true)).1).length:Int))/\((((((zaw (x.1,((yaa 1 ((0,0),(0,0),0,[],(0,0),(0,0),0)).set 0 x.2),1,true)).1).getD (yby 0) (((0,0),(0,0),0,[],(0,0),(0,0),0),0,0)).2,0):(Prod yZX Int))=(zaI x))))))
theorem e15 (x:Ds k15.args):vcFun cx15 f15 k15 x=V15 x:=by kernel_rfl
end Go.Tt
/-
 Shade: the conditions.
-/
namespace Go.Tt
open Go Go.Sx
theorem zba:TabsOk prog TS:=⟨by kernel_rfl,maps_ok⟩
theorem v134 (x:Int × Int × Int) (_:k134.pre x):V134 x:=rfl
theorem v68 (x:Span × Int × Int) (_:k68.pre x):V68 x:=by
 show _=spanB x.1 x.2.1 x.2.2
 simp only [spanB,Bool.and_assoc]
theorem v203 (x:Stroke) (_:k203.pre x):V203 x:=by
 refine ⟨trivial,fun _=>trivial,?_⟩
 show ((!spanB x.1 0 1000)||(!spanB x.2 1 4000))=!strokeB x
 simp only [strokeB,Bool.not_and]
theorem v214 (x:(List Stroke) × Fun Stroke Bool) (h:k214.pre x):V214 x:=zfX x.1 ((0,0),0,0) x.2 h.1 h.2
theorem v204 (x:(List Stroke) × Fun Stroke Bool) (h:k204.pre x):V204 x:=⟨h,any_ix _ _⟩
theorem v178 (x:(List Leads) × Fun Leads Bool) (h:k178.pre x):V178 x:=zfX x.1 ((0,0),(0,0),0,[],(0,0),(0,0),0) x.2 h.1 h.2
theorem v131 (x:(List Leads) × Fun Leads Bool) (h:k131.pre x):V131 x:=⟨h,any_ix _ _⟩
theorem v179 (x:Leads) (_:k179.pre x):V179 x:=by
 refine ⟨trivial,fun _=>trivial,fun _=>trivial,trivial,fun _=>trivial,fun _=>trivial,fun h=>⟨?_,fun _ _=>trivial⟩,?_⟩
 ·have h:=(yac _ _▸h).2
  have:=of_decide_eq_true h
  show x.2.2.2.1.length<=big
  simp only [big];omega
 ·show ((_&&decide _)&&!(x.2.2.2.1.any fun s=>!strokeB s))=leadsB x
  rw [any_not];rfl
theorem v132 (x:Leads) (_:k132.pre x):V132 x:=⟨trivial,rfl⟩
theorem zgo (p:Nat->Bool) (n i:Nat) (h:i<n) (hh:(yaf n).all p=true):p i=true:=ycT.1 hh i (List.mem_range.2 h)
theorem v69 (x:List Tint) (_:k69.pre x):V69 x:=by
 have hw:zam ((x.length:Int),2,8)=inB (x.length:Int) 2 8:=rfl
 have key:∀ {a b c:Bool},(((!a)||(!b))||(!c))=!((a&&b)&&c):=by decide
 have key2:∀ {a b:Bool},((!a)||(!b))=!(a&&b):=by decide
 simp only [V69,hw]
 refine ⟨trivial,fun h=>?_,fun h=>?_,fun h=>?_,fun h=>?_,fun h=>?_⟩
 ·have h:=inB_iff.1 (not_iff.2.1 h);omega
 ·rw [key2] at h
  have h:=inB_iff.1 (yac _ _▸not_iff.2.1 h).1
  simp only [Z.in64];omega
 ·rw [key2] at h
  have h:=inB_iff.1 (yac _ _▸not_iff.2.1 h).1
  omega
 ·rw [key] at h
  have h:=not_iff.1.1 h
  show false=curveB x
  rw [curveB]
  have e:((x.length:Int) - 1).toNat=x.length - 1:=by omega
  rw [e] at h
  rw [show yby 0=0 from rfl] at h
  rw [h];rfl
 ·rw [key] at h
  have h:=not_iff.2.1 h
  have e:((x.length:Int) - 1).toNat=x.length - 1:=by omega
  rw [e,show yby 0=0 from rfl] at h
  have h8:=inB_iff.1 (yac _ _▸(yac _ _▸h).1).1
  have hc:curveB x=(yaf x.length).all (tintB x):=by rw [curveB,h,Bool.true_and]
  refine ⟨fun s=>0<=s/\s<=(x.length:Int)/\(yaf s.toNat).all (tintB x)=true,fun s=>((x.length:Int) - s).toNat,⟨by omega,by omega,rfl⟩,?_⟩
  rintro s ⟨s1,s2,s3⟩
  obtain ⟨s,rfl⟩:=ydw s1
  simp only [ydx] at s3 ⊢
  have hk:∀ {a b c d:Bool},((!a)||(b&&(c||d)))=!(a&&(!b||(!c&&!d))):=by decide
  refine ⟨fun hi=>?_,fun hi=>?_⟩
  ·have hi:=of_decide_eq_true hi
   have hsl:s<x.length:=by omega
   have hpos:∀ {p:Prop},(decide ((0:Int)<(s:Int))=true/\p)->1<=s:=fun h=>by have:=of_decide_eq_true h.1;omega
   have ed:((s:Int) - 1).toNat=s - 1:=by omega
   rw [ed]
   have et:((!(zam ((x.getD s (0,0)).2,0,200)))||(decide ((0:Int)<(s:Int))&&(decide ((x.getD s (0,0)).1<=(x.getD (s - 1) (0,0)).1)||decide ((x.getD s (0,0)).2<(x.getD (s - 1) (0,0)).2))))=!tintB x s:=by
    rw [hk]
    congr 1
    show (inB _ _ _&&_)=(inB _ _ _&&_)
    congr 1
    have a:(!decide ((0:Int)<(s:Int)))=(s==0):=by
     cases s with
     | zero=>rfl
     | succ n=>simp
    have b:(!decide ((x.getD s (0,0)).1<=(x.getD (s - 1) (0,0)).1))=decide ((x.getD (s - 1) (0,0)).1<(x.getD s (0,0)).1):=by
     rw [<-decide_not];exact decide_eq_decide.2 (by omega)
    have c:(!decide ((x.getD s (0,0)).2<(x.getD (s - 1) (0,0)).2))=decide ((x.getD (s - 1) (0,0)).2<=(x.getD s (0,0)).2):=by
     rw [<-decide_not];exact decide_eq_decide.2 (by omega)
    rw [a,b,c]
   rw [et]
   refine ⟨⟨s1,hi⟩,trivial,fun h=>?_,fun h=>?_,fun h=>?_,fun h=>?_,fun h=>?_,fun h=>?_⟩
   ·simp only [Z.in64];omega
   ·have:=hpos h;omega
   ·simp only [Z.in64];omega
   ·have:=hpos h.2;omega
   ·have h:=not_iff.1.1 h
    show false=curveB x
    rw [hc]
    refine (Bool.eq_false_iff.2 fun hh=>?_).symm
    rw [zgo (tintB x) _ s hsl hh] at h;cases h
   ·have h:=not_iff.2.1 h
    refine ⟨by simp only [Z.in64];omega,⟨by omega,by omega,?_⟩,by omega⟩
    rw [show ((s:Int)+1).toNat=s+1 by omega,List.range_succ,List.all_append,s3]
    simp [h]
  ·have hi:=of_decide_eq_false hi
   have:s=x.length:=by omega
   subst this
   show true=curveB x
   rw [hc,s3]
end Go.Tt
/-
 Shade: halving,mixes,what leads can be.
-/
namespace Go.Tt
open Go Go.Sx
theorem wrapU {n:Int} (h:0<=n/\n<=18446744073709551615):Go.IntKind.wrap .u64 n=n:=by
 unfold Go.IntKind.wrap
 simp [IntKind.bits,IntKind.signed]
 omega
theorem wrapI {n:Int} (h:-9223372036854775808<=n/\n<=9223372036854775807):Go.IntKind.wrap .i64 n=n:=by
 unfold Go.IntKind.wrap
 simp [IntKind.bits,IntKind.signed]
 omega
theorem half {i j:Int} (h0:0<=i) (h:i<j) (hj:j<=1152921504606846976):Go.IntKind.wrap .i64 (ydu (Go.IntKind.wrap .u64 (i+j)) (2^(yby (1))))=ydu (i+j) 2/\i<=ydu (i+j) 2/\ydu (i+j) 2<j:=by
 have e1:Go.IntKind.wrap .u64 (i+j)=i+j:=wrapU ⟨by omega,by omega⟩
 rw [e1,show (2:Int)^(yby 1)=2 from rfl,yaS _ (by decide)]
 refine ⟨?_,by omega,by omega⟩
 exact wrapI ⟨by omega,by omega⟩
theorem srch_bd {f:Int->Bool}:∀ (n:Nat) (i j:Int),i<=j->i<=srch f n i j/\srch f n i j<=j
 | 0,i,j,h=>⟨ydy _,h⟩
 | n+1,i,j,h=>by
  rw [srch]
  cases hd:decide (i<j) with
  | false=>exact ⟨ydy _,h⟩
  | true =>
   have hl:=of_decide_eq_true hd
   have e:ydu (i+j) 2=(i+j) / 2:=yaS _ (by decide)
   rw [cond_true,e]
   cases f ((i+j) / 2) with
   | true=>have:=srch_bd (f:=f) n i ((i+j) / 2) (by omega);rw [cond_true];omega
   | false=>have:=srch_bd (f:=f) n ((i+j) / 2+1) j (by omega);rw [cond_false];omega
theorem zm {f:Int->Bool} {i j:Int} (h:j<=i):∀ n,srch f n i j=i
 | 0=>rfl
 | n+1=>by rw [srch,show decide (i<j)=false from decide_eq_false (by omega)];rfl
theorem v62 (x:Int × Fun Int Bool) (h:k62.pre x):V62 x:=by
 obtain ⟨n,F⟩:=x
 obtain ⟨⟨n0,n1⟩,hp⟩:zbK (n,F):=h
 simp only at n0 n1 hp
 refine ⟨fun s=>(0<=s.1/\s.1<=s.2/\s.2<=n)/\∃ f:Nat,s.2 - s.1<=f/\srch F.val f s.1 s.2=zaH (n,F),fun s=>(s.2 - s.1).toNat,⟨⟨by simp,by simpa using n0,by simp⟩,n.toNat,by simp only;omega,rfl⟩,?_⟩
 rintro ⟨i,j⟩ ⟨⟨b1,b2,b3⟩,f,hf,he⟩
 simp only at b1 b2 b3 hf he ⊢
 refine ⟨fun hl=>?_,fun hl=>?_⟩
 ·have hl':=hl
  have hl:=of_decide_eq_true hl
  obtain ⟨e,g1,g2⟩:=half b1 hl (by omega)
  rw [e]
  obtain ⟨m,hm⟩:∃ m,m=ydu (i+j) 2:=⟨_,rfl⟩
  rw [<-hm] at g1 g2
  rw [<-hm]
  obtain ⟨f',rfl⟩:∃ f',f=f'+1:=⟨f - 1,by omega⟩
  rw [srch,hl',cond_true,<-hm] at he
  refine ⟨by simp only [Z.in64];omega,by decide,hp m (by omega) (by omega),fun hv=>?_,fun hv=>?_⟩
  ·rw [not_iff.1.1 hv,cond_false] at he
   refine ⟨by simp only [Z.in64];omega,⟨⟨by show 0<=m+1;omega,by show m+1<=j;omega,b3⟩,f',by show j - (m+1)<=_;omega,he⟩,?_⟩
   show (j - (m+1)).toNat<(j - i).toNat
   omega
  ·rw [not_iff.2.1 hv,cond_true] at he
   refine ⟨⟨⟨b1,by show i<=m;omega,by show m<=n;omega⟩,f',by show m - i<=_;omega,he⟩,?_⟩
   show (m - i).toNat<(j - i).toNat
   omega
 ·have hl:=of_decide_eq_false hl
  rw [<-he,zm (by omega)]
structure Curve (c:List Tint):Prop where
 l2:2<=c.length
 l8:c.length<=8
 r0:(c.getD 0 (0,0)).1=0
 r1:(c.getD (c.length - 1) (0,0)).1=1000
 bl:∀ i,i<c.length->0<=(c.getD i (0,0)).2/\(c.getD i (0,0)).2<=200
 up:∀ i,i+1<c.length->(c.getD i (0,0)).1<(c.getD (i+1) (0,0)).1/\(c.getD i (0,0)).2<=(c.getD (i+1) (0,0)).2
theorem zcQ {c:List Tint} (h:curveB c=true):Curve c:=by
 simp only [curveB,yac,beq_iff_eq,inB_iff] at h
 obtain ⟨⟨⟨⟨h2,h8⟩,h0⟩,h1⟩,ha⟩:=h
 have hb:∀ i,i<c.length->tintB c i=true:=fun i hi=>zgo (tintB c) _ i hi ha
 refine ⟨by omega,by omega,h0,h1,fun i hi=>?_,fun i hi=>?_⟩
 ·have:=hb i hi
  simp only [tintB,yac,inB_iff] at this
  exact this.1
 ·have:=(yac _ _▸hb (i+1) hi).2
  simp only [Nat.add_sub_cancel,Bool.or_eq_true,yac,decide_eq_true_eq] at this
  rcases this with h | h
  ·simp at h
  ·exact h
theorem Curve.mono {c:List Tint} (h:Curve c):∀ (k i:Nat),i+k<c.length->(c.getD i (0,0)).1<=(c.getD (i+k) (0,0)).1
 | 0,i,_=>ydy _
 | k+1,i,hk=>by
  have h1:=h.mono k i (by omega)
  have h2:=(h.up (i+k) (by omega)).1
  have:(c.getD (i+(k+1)) (0,0)).1=(c.getD (i+k+1) (0,0)).1:=rfl
  omega
theorem Curve.ratio {c:List Tint} (h:Curve c) {i:Nat} (hi:i<c.length):0<=(c.getD i (0,0)).1/\(c.getD i (0,0)).1<=1000:=by
 have h1:=h.mono i 0 (by omega)
 have h2:=h.mono (c.length - 1 - i) i (by omega)
 rw [show i+(c.length - 1 - i)=c.length - 1 by omega] at h2
 rw [Nat.zero_add] at h1
 have:=h.r0
 have:=h.r1
 omega
theorem v259 (x:Mix × Int) (h:k259.pre x):V259 x:=by
 obtain ⟨⟨c,g,k⟩,i⟩:=x
 obtain ⟨⟨hc,hg,hk⟩,i0,i1⟩:MixOk (c,g,k)/\0<=i/\i+1<(c.length:Int):=h
 have C:Curve c:=zcQ hc
 have l8:=C.l8
 have hr:=C.ratio (i:=(i+1).toNat) (by omega)
 simp only [gram] at hg hk
 have hm:=mul_bd (A:=1000) (B:=2147483648) hr (b:=g+k) ⟨by omega,by omega⟩
 refine ⟨by simp only [Z.in64];omega,⟨by show 0<=i+1;omega,i1⟩,by simp only [Z.in64];omega,?_,by simp only [Z.in64];omega,rfl⟩
 show Z.in64 ((c.getD (i+1).toNat (0,0)).1*(g+k))
 simp only [Z.in64];omega
theorem v258 (x:Int × Int) (h:k258.pre x):V258 x:=by
 obtain ⟨⟨h1,h2⟩,h3,h4⟩:ratioOk x:=h
 refine ⟨⟨by omega,?_⟩,rfl⟩
 have:=ydz x.1 x.2
 simp only [Z.in64];omega
theorem v257 (x:Int × Int) (h:k257.pre x):V257 x:=by
 obtain ⟨⟨h1,h2⟩,h3,h4⟩:ratioOk x:=h
 refine ⟨by simp only [Z.in64];omega,by simp only [Z.in64];omega,⟨by omega,?_⟩,rfl⟩
 have:=ydz (x.1+x.2 - 1) x.2
 simp only [Z.in64];omega
structure BlackOk (m:Mix):Prop where
 c0:0<=cutS m
 c1:cutS m+1<(m.1.length:Int)
 pre:zbK ((m.1.length:Int) - 2,reachF m)
 w:1<=(bS m).1 - (aS m).1/\(bS m).1 - (aS m).1<=1000
 a1:0<=(aS m).1/\(aS m).1<=1000
 a2:0<=(aS m).2/\(aS m).2<=200
 d2:0<=(bS m).2 - (aS m).2/\(bS m).2 - (aS m).2<=200
 all:1<=m.2.1+m.2.2/\m.2.1+m.2.2<=2147483648
theorem zib {m:Mix} (h:MixOk m):BlackOk m:=by
 have C:=zcQ h.curve
 have l2:=C.l2
 have l8:=C.l8
 have hb:=srch_bd (f:=(reachF m).val) ((m.1.length:Int) - 2).toNat 0 ((m.1.length:Int) - 2) (by omega)
 have hb:0<=cutS m/\cutS m<=(m.1.length:Int) - 2:=hb
 have hg:=h.g
 have hc:=h.c
 simp only [gram] at hg hc
 have e:(cutS m+1).toNat=(cutS m).toNat+1:=by omega
 have hu:=C.up (cutS m).toNat (by omega)
 have ha:=C.ratio (i:=(cutS m).toNat) (by omega)
 have hb1:=C.ratio (i:=(cutS m).toNat+1) (by omega)
 have ha2:=C.bl (cutS m).toNat (by omega)
 have hb2:=C.bl ((cutS m).toNat+1) (by omega)
 rw [<-e] at hu hb1 hb2
 refine ⟨hb.1,by omega,⟨⟨by show 0<=(m.1.length:Int) - 2;omega,by show (m.1.length:Int) - 2<=_;omega⟩,fun i h0 h1=>⟨h,h0,by have h1:i<(m.1.length:Int) - 2:=h1;show i+1<(m.1.length:Int);omega⟩⟩,?_,ha,ha2,?_,by omega⟩
 ·show 1<=(m.1.getD (cutS m+1).toNat (0,0)).1 - (m.1.getD (cutS m).toNat (0,0)).1/\(m.1.getD (cutS m+1).toNat (0,0)).1 - (m.1.getD (cutS m).toNat (0,0)).1<=1000
  omega
 ·show 0<=(m.1.getD (cutS m+1).toNat (0,0)).2 - (m.1.getD (cutS m).toNat (0,0)).2/\(m.1.getD (cutS m+1).toNat (0,0)).2 - (m.1.getD (cutS m).toNat (0,0)).2<=200
  omega
theorem v256 (x:Mix) (h:k256.pre x):V256 x:=by
 have h:MixOk x:=h
 have B:=zib h
 obtain ⟨w1,w2⟩:=B.w
 obtain ⟨s1,s2⟩:=B.all
 have hg:=h.g
 simp only [gram] at hg
 have l8:=(zcQ h.curve).l8
 have m1:=mul_bd (A:=200) (B:=1000) B.a2 (b:=(bS x).1 - (aS x).1) ⟨by omega,w2⟩
 have m2:=mul_bd (A:=200000) (B:=2147483648) ⟨m1.1,by have:=m1.2;omega⟩ (b:=x.2.1+x.2.2) ⟨by omega,s2⟩
 have m3:=mul_bd (A:=1000) (B:=2147483648) B.a1 (b:=x.2.1+x.2.2) ⟨by omega,s2⟩
 have m4:=mul_sb (A:=200) (B:=2199023255552) B.d2 (b:=1000*x.2.1 - (aS x).1*(x.2.1+x.2.2)) ⟨by omega,by omega⟩
 have m5:=mul_bd (A:=1000) (B:=2147483648) (a:=(bS x).1 - (aS x).1) ⟨by omega,w2⟩ (b:=x.2.1+x.2.2) ⟨by omega,s2⟩
 have c0:=B.c0
 have c1:=B.c1
 have a1:=B.a1
 have a2:=B.a2
 have d2:=B.d2
 unfold V256 Z.in64
 refine ⟨by omega,by omega,B.pre,⟨c0,by omega⟩,by omega,⟨by omega,c1⟩,by show _<=(bS x).1 - (aS x).1/\(bS x).1 - (aS x).1<=_;omega,?_,?_,by show _<=(bS x).2 - (aS x).2/\(bS x).2 - (aS x).2<=_;omega,by omega,?_,?_,?_,?_,?_,rfl⟩
 ·show _<=(aS x).2*((bS x).1 - (aS x).1)/\(aS x).2*((bS x).1 - (aS x).1)<=_
  omega
 ·show _<=(aS x).2*((bS x).1 - (aS x).1)*(x.2.1+x.2.2)/\(aS x).2*((bS x).1 - (aS x).1)*(x.2.1+x.2.2)<=_
  omega
 ·show _<=(aS x).1*(x.2.1+x.2.2)/\(aS x).1*(x.2.1+x.2.2)<=_
  omega
 ·show _<=1000*x.2.1 - (aS x).1*(x.2.1+x.2.2)/\1000*x.2.1 - (aS x).1*(x.2.1+x.2.2)<=_
  omega
 ·show _<=((bS x).2 - (aS x).2)*(1000*x.2.1 - (aS x).1*(x.2.1+x.2.2))/\((bS x).2 - (aS x).2)*(1000*x.2.1 - (aS x).1*(x.2.1+x.2.2))<=_
  omega
 ·show _<=(aS x).2*((bS x).1 - (aS x).1)*(x.2.1+x.2.2)+((bS x).2 - (aS x).2)*(1000*x.2.1 - (aS x).1*(x.2.1+x.2.2))/\(aS x).2*((bS x).1 - (aS x).1)*(x.2.1+x.2.2)+((bS x).2 - (aS x).2)*(1000*x.2.1 - (aS x).1*(x.2.1+x.2.2))<=_
  omega
 ·show _<=((bS x).1 - (aS x).1)*(x.2.1+x.2.2)/\((bS x).1 - (aS x).1)*(x.2.1+x.2.2)<=_
  omega
theorem zgG {x:Mix} (h:MixOk x):ratioOk (zad x):=by
 have B:=zib h
 obtain ⟨w1,w2⟩:=B.w
 obtain ⟨s1,s2⟩:=B.all
 have hg:=h.g
 simp only [gram] at hg
 have m1:=mul_bd (A:=200) (B:=1000) B.a2 (b:=(bS x).1 - (aS x).1) ⟨by omega,w2⟩
 have m2:=mul_bd (A:=200000) (B:=2147483648) ⟨m1.1,by have:=m1.2;omega⟩ (b:=x.2.1+x.2.2) ⟨by omega,s2⟩
 have m3:=mul_bd (A:=1000) (B:=2147483648) B.a1 (b:=x.2.1+x.2.2) ⟨by omega,s2⟩
 have m4:=mul_sb (A:=200) (B:=2199023255552) B.d2 (b:=1000*x.2.1 - (aS x).1*(x.2.1+x.2.2)) ⟨by omega,by omega⟩
 have m5:=mul_bd (A:=1000) (B:=2147483648) (a:=(bS x).1 - (aS x).1) ⟨by omega,w2⟩ (b:=x.2.1+x.2.2) ⟨by omega,s2⟩
 have m6:1<=((bS x).1 - (aS x).1)*(x.2.1+x.2.2):=Int.mul_pos (by omega) (by omega)
 refine ⟨⟨m6,?_⟩,?_,?_⟩
 ·show ((bS x).1 - (aS x).1)*(x.2.1+x.2.2)<=_
  omega
 ·show _<=(aS x).2*((bS x).1 - (aS x).1)*(x.2.1+x.2.2)+((bS x).2 - (aS x).2)*(1000*x.2.1 - (aS x).1*(x.2.1+x.2.2))
  omega
 ·show (aS x).2*((bS x).1 - (aS x).1)*(x.2.1+x.2.2)+((bS x).2 - (aS x).2)*(1000*x.2.1 - (aS x).1*(x.2.1+x.2.2))<=_
  omega
theorem up_bd {x:Int × Int} (h:ratioOk x):-2251799813685248<=zar x/\zar x<=2251799813685248:=by
 obtain ⟨⟨h1,h2⟩,h3,h4⟩:=h
 have:=ydz (x.1+x.2 - 1) x.2
 simp only [zar]
 omega
theorem down_bd {x:Int × Int} (h:ratioOk x):-2251799813685248<=zaj x/\zaj x<=2251799813685248:=by
 obtain ⟨⟨h1,h2⟩,h3,h4⟩:=h
 have:=ydz x.1 x.2
 simp only [zaj]
 omega
structure LeadsOk (l:Leads):Prop where
 g:1<=l.1.1/\l.1.1<=l.1.2/\l.1.2<=gram
 c:0<=l.2.1.1/\l.2.1.1<=l.2.1.2/\l.2.1.2<=gram
 tol:0<=l.2.2.1/\l.2.2.1<=200
 st:0<=l.2.2.2.2.1.1/\l.2.2.2.2.1.1<=l.2.2.2.2.1.2/\l.2.2.2.2.1.2<=10000
 we:0<=l.2.2.2.2.2.1.1/\l.2.2.2.2.2.1.1<=l.2.2.2.2.2.1.2/\l.2.2.2.2.2.1.2<=10000
 many:0<=l.2.2.2.2.2.2/\l.2.2.2.2.2.2<=topN
 s6:l.2.2.2.1.length<=6
 str:∀ s∈l.2.2.2.1,strokeB s=true
theorem zhL {l:Leads} (h:leadsB l=true):LeadsOk l:=by
 simp only [leadsB,yac,zeT,inB_iff,decide_eq_true_eq] at h
 obtain ⟨⟨⟨⟨⟨h1,h2⟩,h3⟩,⟨h4,h5⟩,h6⟩,h7⟩,h8⟩:=h
 exact ⟨h1,h2,h3,h4,h5,h6,by omega,fun s hs=>ycT.1 h8 s hs⟩
theorem mixes {x:(List Tint) × Leads} (hc:curveB x.1=true) (hl:leadsB x.2=true):MixOk (x.1,x.2.1.1,x.2.2.1.2)/\MixOk (x.1,x.2.1.2,x.2.2.1.1):=by
 have L:=zhL hl
 have h1:=L.g
 have h2:=L.c
 exact ⟨⟨hc,⟨h1.1,by show x.2.1.1<=gram;omega⟩,by show 0<=x.2.2.1.2;omega,h2.2.2⟩,⟨hc,⟨by show 1<=x.2.1.2;omega,h1.2.2⟩,h2.1,by show x.2.2.1.1<=gram;omega⟩⟩
theorem v255 (x:(List Tint) × Leads) (h:k255.pre x):V255 x:=by
 obtain ⟨hc,hl⟩:curveB x.1=true/\leadsB x.2=true:=h
 obtain ⟨m1,m2⟩:=mixes hc hl
 have r1:=zgG m1
 have r2:=zgG m2
 have b1:=up_bd r1
 have b2:=down_bd r2
 have ht:=(zhL hl).tol
 refine ⟨m1,m2,r1,by simp only [Z.in64];omega,r2,by simp only [Z.in64];omega,rfl⟩
theorem zim {s:Stroke} (h:strokeB s=true):(0<=s.1.1/\s.1.1<=1000)/\(0<=s.1.2/\s.1.2<=1000)/\ratioOk (1000*s.1.1,s.2.2)/\ratioOk (1000*s.1.2,s.2.1):=by
 simp only [strokeB,yac,zeT] at h
 refine ⟨by omega,by omega,⟨⟨?_,?_⟩,?_,?_⟩,⟨⟨?_,?_⟩,?_,?_⟩⟩<;>simp only<;>omega
theorem v260 (x:Stroke) (h:k260.pre x):V260 x:=by
 obtain ⟨h1,h2,h3,h4⟩:=zim (s:=x) h
 exact ⟨by simp only [Z.in64];omega,h3,by simp only [Z.in64];omega,h4,rfl⟩
end Go.Tt
/-
 Shade: how black leads can be,and which shades they have.
-/
namespace Go.Tt
open Go Go.Sx
theorem zlg {α β:Type} (f:α->β) (l:List α) (d:α) (i:Nat) (h:i<l.length):(l.take (i+1)).map f=(l.take i).map f++[f (l.getD i d)]:=by
 rw [List.take_succ_eq_append_getElem h,List.map_append]
 simp [List.getD,h]
theorem v133 (x:(List Tint) × Leads) (h:k133.pre x):V133 x:=by
 obtain ⟨hc,hl⟩:curveB x.1=true/\leadsB x.2=true:=h
 have L:=zhL hl
 have s6:=L.s6
 obtain ⟨ss,hss⟩:∃ ss,ss=x.2.2.2.2.1:=⟨_,rfl⟩
 have hst:∀ s∈ss,strokeB s=true:=by rw [hss];exact L.str
 have hb:blackB x=(boundsR x::ss.map boundsS).foldl meet (0,200):=by rw [hss];rfl
 unfold V133
 rw [<-hss]
 rw [<-hss] at s6
 refine ⟨fun s=>0<=s.2/\s.2<=(ss.length:Int)/\s.1=recipeS x::(ss.take s.2.toNat).map strokeS,fun s=>((ss.length:Int) - s.2).toNat,⟨by simp,by simp,rfl⟩,?_⟩
 rintro ⟨r,i⟩ ⟨i1,i2,e⟩
 simp only at i1 i2 e ⊢
 obtain ⟨i,rfl⟩:=ydw i1
 simp only [ydx] at e ⊢
 subst e
 refine ⟨fun hi=>?_,fun hi=>?_⟩
 ·have hi:=of_decide_eq_true hi
  have hi':i<ss.length:=by omega
  refine ⟨⟨i1,hi⟩,?_,by simp only [Z.in64];omega,trivial,⟨by omega,by omega,?_⟩,by omega⟩
  ·refine zjV (by decide) (by decide) ?_
   simp only [yao,ybT,List.length_map,List.length_take,List.length_set,List.length_replicate];omega
  ·show recipeS x::(ss.take i).map strokeS++[strokeS (ss.getD i ((0,0),0,0))]=recipeS x::(ss.take ((i:Int)+1).toNat).map strokeS
   rw [show ((i:Int)+1).toNat=i+1 by omega,zlg strokeS ss ((0,0),0,0) i hi',List.cons_append]
 have hi:=of_decide_eq_false hi
 have:i=ss.length:=by omega
 subst this
 rw [List.take_length]
 obtain ⟨A,hA⟩:∃ A,A=recipeS x::ss.map strokeS:=⟨_,rfl⟩
 rw [<-hA]
 have hAl:A.length=ss.length+1:=by rw [hA];simp
 have hAv:A.map (fun s=>s.1.val ())=boundsR x::ss.map boundsS:=by rw [hA,ybB,List.map_map];rfl
 have hAp:∀ a∈A,a.1.pre ():=by
  intro a ha
  rw [hA] at ha
  rcases List.mem_cons.1 ha with rfl | ha
  ·exact ⟨hc,hl⟩
  ·obtain ⟨s,hs,rfl⟩:=List.mem_map.1 ha
   exact hst s hs
 rw [<-hAv] at hb
 refine ⟨fun s=>0<=s.1/\s.1<=(A.length:Int)/\((A.drop s.1.toNat).map fun s=>s.1.val ()).foldl meet s.2=blackB x,fun s=>((A.length:Int) - s.1).toNat,⟨by simp,by simp,hb.symm⟩,?_⟩
 rintro ⟨i,o⟩ ⟨i1,i2,e⟩
 simp only at i1 i2 e ⊢
 refine ⟨fun hi=>?_,fun hi=>?_⟩
 ·have hi:=of_decide_eq_true hi
  rw [zev A zeroS i i1 hi,ybB,List.foldl_cons] at e
  refine ⟨⟨i1,hi⟩,hAp _ (zgy A zeroS i i1 hi),by simp only [Z.in64];omega,trivial,trivial,⟨by omega,by omega,e⟩,?_⟩
  show ((A.length:Int) - (i+1)).toNat<((A.length:Int) - i).toNat
  omega
 ·have hi:=of_decide_eq_false hi
  rw [ydc (by omega)] at e
  exact e
theorem any_bad {l:List Leads}:(l.any fun a=>!leadsB a)=false↔∀ a∈l,leadsB a=true:=by
 rw [List.any_eq_false]
 exact ⟨fun h a ha=>by have:=h a ha;cases hb:leadsB a with | true=>rfl | false=>rw [hb] at this;exact absurd rfl this,fun h a ha=>by rw [h a ha];decide⟩
theorem v66 (x:(List Tint) × (List Leads) × Int × Bool) (h:k66.pre x):V66 x:=by
 obtain ⟨c,l,most,ok⟩:=x
 have hm:most<=100:=h
 refine ⟨trivial,fun hc=>?_,fun hc=>⟨fun hl=>?_,fun hl=>⟨fun ho=>?_,fun hb=>?_,fun hb=>?_⟩⟩⟩
 ·have hc:(!curveB c)=true:=hc
  show _=zaw (c,l,most,ok)
  simp only [zaw];rw [hc];rfl
 ·have hc:(!curveB c)=false:=hc
  show _=zaw (c,l,most,ok)
  simp only [zaw];rw [hc,hl];rfl
 ·have hl:=of_decide_eq_false hl
  exact ⟨by show l.length<=big;simp only at hl;simp only [big];omega,fun _ _=>trivial⟩
 ·have hc:(!curveB c)=false:=hc
  have hb:(!ok||l.any fun a=>!leadsB a)=true:=hb
  show _=zaw (c,l,most,ok)
  simp only [zaw];rw [hc,hl,hb];rfl
 have hc:(!curveB c)=false:=hc
 have hb:(!ok||l.any fun a=>!leadsB a)=false:=hb
 have eo:zaw (c,l,most,ok)=openL c l []:=by simp only [zaw];rw [hc,hl,hb];rfl
 have hl:=of_decide_eq_false hl
 simp only at hl
 rw [Bool.or_eq_false_iff] at hb
 have hgood:=any_bad.1 hb.2
 refine ⟨fun s=>0<=s.2/\s.2<=(l.length:Int)/\s.1.length=s.2.toNat/\openL c (l.drop s.2.toNat) s.1=openL c l [],fun s=>((l.length:Int) - s.2).toNat,⟨by simp,by simp,rfl,rfl⟩,?_⟩
 rintro ⟨r,i⟩ ⟨i1,i2,e1,e2⟩
 simp only at i1 i2 e1 e2 ⊢
 refine ⟨fun hi=>?_,fun hi=>?_⟩
 ·have hi:=of_decide_eq_true hi
  have hmem:=zgy l ((0,0),(0,0),0,[],(0,0),(0,0),0) i i1 hi
  rw [zev l ((0,0),(0,0),0,[],(0,0),(0,0),0) i i1 hi,openL] at e2
  refine ⟨⟨i1,hi⟩,⟨not_iff.2.1 hc,hgood _ hmem⟩,fun hd=>?_,fun hd=>?_⟩
  ·have hd:decide ((blackB (c,l.getD i.toNat ((0,0),(0,0),0,[],(0,0),(0,0),0))).2<(blackB (c,l.getD i.toNat ((0,0),(0,0),0,[],(0,0),(0,0),0))).1)=true:=hd
   rw [hd,cond_true] at e2
   rw [eo,<-e2]
  ·have hd:decide ((blackB (c,l.getD i.toNat ((0,0),(0,0),0,[],(0,0),(0,0),0))).2<(blackB (c,l.getD i.toNat ((0,0),(0,0),0,[],(0,0),(0,0),0))).1)=false:=hd
   rw [hd,cond_false] at e2
   refine ⟨zjV (by decide) (by decide) (by rw [yao,e1];simp;omega),by simp only [Z.in64];omega,⟨by omega,by omega,by rw [yao,e1];simp;omega,e2⟩,?_⟩
   show ((l.length:Int) - (i+1)).toNat<((l.length:Int) - i).toNat
   omega
 ·have hi:=of_decide_eq_false hi
  rw [ydc (by omega)] at e2
  rw [eo,<-e2];rfl
theorem zmg (c:List Tint) (l:Leads) (ok:Bool):zaw (c,[l],1,ok)=cond (!curveB c) ([],1) (cond (!ok||!leadsB l) ([],2) (cond (decide ((blackB (c,l)).2<(blackB (c,l)).1)) ([],6) ([(l,blackB (c,l))],0))):=by
 simp only [zaw,List.any_cons,List.any_nil,Bool.or_false,ybT,List.length_nil,openL]
 rfl
theorem v15 (x:(List Tint) × Leads) (_:k15.pre x):V15 x:=by
 obtain ⟨c,l⟩:=x
 have eo:=zmg c l true
 have e1:(yaa 1 ((((0,0),(0,0),0,[],(0,0),(0,0),0):Leads))).set 0 l=[l]:=rfl
 have eb:zaI (c,l)=blackV c l:=rfl
 unfold V15
 simp only [e1,eb]
 refine ⟨by show (1:Int)<=100;omega,?_⟩
 rw [eo]
 unfold blackV
 cases curveB c with
 | false=>exact ⟨fun _=>rfl,fun h=>by cases h⟩
 | true =>
  cases leadsB l with
  | false=>exact ⟨fun _=>rfl,fun h=>by cases h⟩
  | true =>
   cases decide ((blackB (c,l)).2<(blackB (c,l)).1) with
   | true=>exact ⟨fun _=>rfl,fun h=>by cases h⟩
   | false=>exact ⟨(fun h=>by cases h),fun _=>⟨⟨by omega,by show (0:Int)<1;omega⟩,rfl⟩⟩
end Go.Tt
