/-
  Box: what each function gives. No program in sight.
-/
import Derived.Test.YtdhdklojcppfcaaTtSP3
import Derived.Test.YtdhdklojcppfcaaProg
set_option linter.all false
set_option maxRecDepth 100000
open Bool renaming and_eq_true->yac
open Int renaming add_zero->ydI,ediv_nonneg->yaX,eq_ofNat_of_zero_le->ydw,fdiv->ydv,fdiv_eq_ediv_of_nonneg->yaS,le_of_lt->yaT,le_refl->ydB,mul_le_mul->ydE,mul_nonneg->ydD,natCast_nonneg->ydO,one_mul->ydy,pow_pos->yaR,tdiv->ydR,tdiv_eq_ediv_of_nonneg->ydS,toNat->yby,toNat_natCast->ydt
open List renaming Mem->ydC,any_cons->yds,any_eq_false->ydN,append_assoc->yaz,append_nil->ydr,drop_eq_nil_of_le->ydc,foldl_append->ydK,foldl_cons->ybD,getD->yda,getD_eq_getElem?_getD->ybd,length_append->yao,length_cons->ybT,length_drop->ybJ,length_map->ycK,length_range->ydQ,length_set->ybV,length_take->ybo,mem_append->yas,mem_cons->yaq,mem_cons_of_mem->yal,mem_cons_self->yam,mem_map->ycp,mem_of_mem_take->ydH,mem_range->ycU,mem_singleton->yat,range->yaf,range_succ->ydP,replicate->yaa,set_append_right->ydF,take_of_length_le->ydG,take_succ_eq_append_getElem->ydJ
open Nat renaming le_refl->yag,pow_le_pow_right->ydx,sub_self->ydq,zero_le->ybr
open Option renaming getD_none->ydL,getD_some->ydM
open Option.some renaming inj->yaA
open Go.Proofs.Try
namespace Go.Tt
open Go Go.Sx
abbrev Pile:=Int × Int
abbrev Stock:=Int->Option Int
abbrev most40:Int:=1099511627776
def needB (n:Int):Bool:=inB n 0 48
def pileB (n:Nat) (p:Pile):Bool:=inB p.1 0 (allV n)&&inB p.2 0 topN
def maxV:List Int->Int
 | []=>0
 | a::l=>l.foldl max a
def boxB (need:List Int) (l:List Pile):Bool:=(((inB (need.length:Int) 1 8&&decide ((l.length:Int)<=8))&&need.all needB)&&l.all (pileB need.length))&&decide (0<maxV need)
structure BoxOk (need:List Int) (l:List Pile):Prop where
 n8:need.length<=8
 l8:l.length<=8
 need:∀ n∈need,0<=n/\n<=most40
 pile:∀ p∈l,smallSet p.1/\amount p.2
def sumV (s:Int) (l:List Int):Int:=selS (fun k=>hasB s (k:Nat)) l 0
def haveV:List Pile->Int->Int
 | [],_=>0
 | p::l,s=>cond (touchB s p.1) p.2 0+haveV l s
def setsV (n:Nat):List Int:=(yaf (2^n - 1)).map fun k=>((k+1:Nat):Int)
def stockV (k:Stock) (s:Int):Int:=((yaf 256).map fun t=>cond (touchB s (t:Nat)) ((k (t:Nat)).getD 0) 0).sum
def putV (k:Stock) (p:Pile):Stock:=@Z.mput Int Int (fun a b=>a==b) k p.1 ((k p.1).getD 0+p.2)
def newV (l:List Pile):Stock:=l.foldl putV fun _=>none
structure StockOk (k:Stock):Prop where
 key:∀ t v,k t=some v->smallSet t
 val:∀ t v,k t=some v->0<=v/\v<=1073741824
def worstV (d:Int->Int) (l:List Int):Int × Int:=l.foldl (fun b s=>cond (decide (b.2<d s)) (s,d s) b) (0,0)
def lacksV (need:List Int) (l:List Pile) (s:Int):Int:=sumV s need - haveV l s
def lackB (need:List Int) (l:List Pile):Int × Int:=worstV (lacksV need l) (setsV need.length)
def timesV (need:List Int) (n:Int):List Int:=need.map fun x=>x*n
def canF (need:List Int) (l:List Pile):Bool:=(lackB need l).2==0
def zbg (x:Int × Int × Int):Bool:=inB x.1 x.2.1 x.2.2
def zcr (_:Int × Int × Int):Prop:=True
def zbZ (x:Int):Bool:=!needB x
def zby (_:Int):Prop:=True
def zcB (x:Pile × List Int):Bool:=!pileB x.2.length x.1
def zcj (x:Pile × List Int):Prop:=x.2.length<=8
def zaX (x:(List Int) × Fun Int Bool):Int:=ixF x.2.val x.1 0
def zbH (x:(List Int) × Fun Int Bool):Prop:=x.1.length<=big/\∀ a∈x.1,x.2.pre a
def zaz (x:(List Int) × Fun Int Bool):Bool:=x.1.any x.2.val
def zbt (x:(List Int) × Fun Int Bool):Prop:=x.1.length<=big/\∀ a∈x.1,x.2.pre a
def zaw (x:(List Pile) × Fun Pile Bool):Int:=ixF x.2.val x.1 0
def zbe (x:(List Pile) × Fun Pile Bool):Prop:=x.1.length<=big/\∀ a∈x.1,x.2.pre a
def zar (x:(List Pile) × Fun Pile Bool):Bool:=x.1.any x.2.val
def zaW (x:(List Pile) × Fun Pile Bool):Prop:=x.1.length<=big/\∀ a∈x.1,x.2.pre a
def zcl (x:List Int):Int:=maxV x
def zcT (x:List Int):Prop:=1<=x.length/\x.length<=big
def zcN (x:(List Int) × List Pile):Bool:=boxB x.1 x.2
def zew (_:(List Int) × List Pile):Prop:=True
def zcM (x:Int × Int):Bool:=hasB x.1 x.2
def zeu (x:Int × Int):Prop:=0<=x.1/\0<=x.2/\x.2<64
def zbq (x:Int × List Int):Int:=sumV x.1 x.2
def zet (x:Int × List Int):Prop:=0<=x.1/\x.2.length<=8/\∀ n∈x.2,0<=n/\n<=most40
def zbY (x:Int × Int):Bool:=touchB x.1 x.2
def zdw (x:Int × Int):Prop:=0<=x.1/\0<=x.2
def zcL (x:Int):List Int:=setsV x.toNat
def zes (x:Int):Prop:=0<=x/\x<=8
def zdH (x:Int):Sx.Seq Int:=⟨0<=x/\x<=8,setsV x.toNat⟩
def zgB (_:Int):Prop:=True
def zaJ (l:List Pile):Stock:=newV l
def zdL (l:List Pile):Prop:=l.length<=8/\∀ p∈l,smallSet p.1/\amount p.2
def zb (x:Stock × Int):Int:=stockV x.1 x.2
def zdK (x:Stock × Int):Prop:=StockOk x.1/\smallSet x.2
def zaR (x:Sx.Seq Int):List Int:=x.2
def zcn (x:Sx.Seq Int):Prop:=x.1/\x.2.length<=big
def zbO (x:Stock × (List Int) × List Int):Int × Int:=worstV (fun s=>sumV s x.2.1 - stockV x.1 s) x.2.2
def zdW (x:Stock × (List Int) × List Int):Prop:=StockOk x.1/\(x.2.1.length<=8/\∀ n∈x.2.1,0<=n/\n<=most40)/\x.2.2.length<=big/\∀ s∈x.2.2,smallSet s
def zev (x:(List Int) × List Pile):Int × Int:=lackB x.1 x.2
def zgC (x:(List Int) × List Pile):Prop:=BoxOk x.1 x.2
def zab (x:List Pile):List Pile:=x
def zaM (x:List Pile):Prop:=x.length<=big
def zaF (x:(List Int) × Int):List Int:=timesV x.1 x.2
def zdv (x:(List Int) × Int):Prop:=x.1.length<=8/\(∀ n∈x.1,0<=n/\n<=48)/\0<=x.2/\x.2<=8388609
def box_can (x:(List Int) × List Pile):Bool:=canF x.1 x.2
def zgc (x:(List Int) × List Pile):Prop:=BoxOk x.1 x.2
def zbE (x:Int × Fun Int Bool):Bool:=!x.2.val (x.1+1)
def zbP (x:Int × Fun Int Bool):Prop:=(0<=x.1/\x.1<=most40)/\x.2.pre (x.1+1)
def greatV (n:Int) (p:Int->Bool):Int:=srch (fun k=>!p (k+1)) n.toNat 0 n
def zck (x:Int × Fun Int Bool):Int:=greatV x.1 x.2.val
def zbn (x:Int × Fun Int Bool):Prop:=(0<=x.1/\x.1<=most40)/\∀ i,1<=i->i<=x.1->x.2.pre i
def zgD (x:Int × (List Int) × List Pile):Bool:=canF (timesV x.2.1 x.1) x.2.2
def zgd (x:Int × (List Int) × List Pile):Prop:=boxB x.2.1 x.2.2=true/\0<=x.1/\x.1<=8388608
abbrev mostF (need:List Int) (l:List Pile):Fun Int Bool:=⟨fun n=>zgd (n,need,l),fun n=>zgD (n,need,l)⟩
abbrev mostB (x:(List Int) × List Pile):Int:=zck (8388608,mostF x.1 x.2)
def proofV (d:Int->Int) (b:Int):List Int->Int × Int × Int
 | []=>(0,0,4)
 | s::r=>cond (decide (0<d s)) (b,s,0) (proofV d b r)
def zca (x:(List Int) × List Pile):Int × Int × Int:=cond (boxB x.1 x.2) (proofV (lacksV (timesV x.1 (mostB x+1)) x.2) (mostB x) (setsV x.1.length)) (0,0,1)
def zjb (_:(List Int) × List Pile):Prop:=True
def zak (x:(List Int) × (List Pile) × Int):Int:=cond (boxB x.1 x.2.1) (cond (inB x.2.2 0 topN) 0 2) 1
def zfx (_:(List Int) × (List Pile) × Int):Prop:=True
def zbF (x:(List Int) × (List Pile) × Int):Int × Int × Int:=cond (zak x==0) (cond ((lackB (timesV x.1 x.2.2) x.2.1).2==0) (0,0,4) ((lackB (timesV x.1 x.2.2) x.2.1).1,(lackB (timesV x.1 x.2.2) x.2.1).2,0)) (0,0,zak x)
def zjc (_:(List Int) × (List Pile) × Int):Prop:=True
abbrev noP:Pile:=(0,0)
def zgE (x:Int × (List Int) × Int × List Pile):Bool:=canF (x.2.1.set x.2.2.1.toNat 0) (x.2.2.2.set 0 ((x.2.2.2.getD 0 noP).1,(x.2.2.2.getD 0 noP).2 - x.1))
def zge (x:Int × (List Int) × Int × List Pile):Prop:=BoxOk x.2.1 x.2.2.2/\(0<=x.2.2.1/\x.2.2.1<(x.2.1.length:Int))/\1<=x.2.2.2.length/\0<=x.1/\x.1<=(x.2.2.2.getD 0 noP).2
abbrev ownF (left:List Int) (k:Int) (rest:List Pile):Fun Int Bool:=⟨fun n=>zge (n,left,k,rest),fun n=>zgE (n,left,k,rest)⟩
abbrev offS (s k:Int):Int:=((s.toNat ^^^ (s.toNat &&& (1*2^k.toNat:Int).toNat):Nat):Int)
abbrev zRow:List Int:=yaa 8 0
abbrev sold0:List (List Int):=yaa 8 zRow
abbrev FillS:=(List (List Int)) × (List Int) × List Pile
abbrev offP' (k:Int) (r:List Pile):List Pile:=r.set (yby 0) (offS (r.getD (yby 0) noP).1 k,(r.getD (yby 0) noP).2)
abbrev numF (left:List Int) (k:Int) (r:List Pile):Int:=zck (min (r.getD (yby 0) noP).2 (left.getD k.toNat 0),ownF left k r)
abbrev takeP (n:Int) (r:List Pile):List Pile:=r.set (yby 0) ((r.getD (yby 0) noP).1,(r.getD (yby 0) noP).2 - n)
abbrev sellS (s:List (List Int)) (i k n:Int):List (List Int):=s.set i.toNat ((s.getD i.toNat zRow).set k.toNat n)
abbrev fillTo (i k:Int) (s:FillS) (r:List Pile):FillS:=(sellS s.1 i k (numF s.2.1 k r),s.2.1.set k.toNat (s.2.1.getD k.toNat 0 - numF s.2.1 k r),takeP (numF s.2.1 k r) r)
def fillStep (i k:Int) (s:FillS):FillS:=cond (hasB (s.2.2.getD (yby 0) noP).1 k) (fillTo i k s (offP' k s.2.2)) s
def fillRow (i:Int) (n:Nat) (s:FillS):FillS:=(yaf n).foldl (fun s k=>fillStep i (k:Nat) s) s
def packV (need:List Int) (l:List Pile) (m:Nat) (s:(List (List Int)) × List Int):(List (List Int)) × List Int :=
 (yaf m).foldl (fun s i=>((fillRow (i:Nat) need.length (s.1,s.2,l.drop i)).1,(fillRow (i:Nat) need.length (s.1,s.2,l.drop i)).2.1)) s
def fillAll (x:(List Int) × (List Pile) × Int):List (List Int):=(packV x.1 x.2.1 x.2.1.length (sold0,timesV x.1 x.2.2)).1
def zaK (x:(List Int) × (List Pile) × Int):(List (List Int)) × Int:=cond (zak x==0) (cond (canF (timesV x.1 x.2.2) x.2.1) ((yaf x.2.1.length).map fun i=>((fillAll x).getD i zRow).take x.1.length,0) ([],10)) ([],zak x)
def zjd (_:(List Int) × (List Pile) × Int):Prop:=True
end Go.Tt
/- Written by a program of mine (wip/tools/gen.py): contexts and conditions of functions. -/
set_option maxHeartbeats 4000000
namespace Go.Tt
open Go Go.Sx
def TB:Tabs:={
 tyL:=[(3,I),(4,.bo),(36,I),(56,(.sl I)),(57,(.sl (.st (.p I I)))),(62,(.st (.p I I))),(70,(.sl (.sl I))),(135,(.f1 I .bo)),(148,(.mp I I)),(150,(.sq false I)),(151,(.sq false I)),(153,I),(158,(.arr 8 I)),(159,(.arr 8 (.arr 8 I))),(161,(.ref (.st (.p I I)))),(227,(.f1 (.st (.p I I)) .bo)),(230,(.f1 I .bo)),(242,(.sl I))],
 elL:=[(56,3),(57,62),(70,56),(242,153)],
 oneL:=[56,57,135,148,242],
 mtyL:=[(122,(3,221)),(123,(3,221)),(147,(153,3)),(148,(153,3)),(249,(3,4)),(282,(4,281))] }
def k137:Con:={ args:=[I,I,I],res:=[.bo],pre:=zcr,val:=zbg }
def k136:Con:={ args:=[I],res:=[.bo],pre:=zby,val:=zbZ }
def k138:Con:={ args:=[(.st (.p I I)),(.ref (.sl I))],res:=[.bo],pre:=zcj,val:=zcB }
def k180:Con:={ args:=[(.sl I),(.f1 I .bo)],res:=[I],pre:=zbH,val:=zaX }
def k139:Con:={ args:=[(.sl I),(.f1 I .bo)],res:=[.bo],pre:=zbt,val:=zaz }
def k181:Con:={ args:=[(.sl (.st (.p I I))),(.f1 (.st (.p I I)) .bo)],res:=[I],pre:=zbe,val:=zaw }
def k140:Con:={ args:=[(.sl (.st (.p I I))),(.f1 (.st (.p I I)) .bo)],res:=[.bo],pre:=zaW,val:=zar }
def k141:Con:={ args:=[(.sl I)],res:=[I],pre:=zcT,val:=zcl }
def k72:Con:={ args:=[(.sl I),(.sl (.st (.p I I)))],res:=[.bo],pre:=zew,val:=zcN }
def k85:Con:={ args:=[I,I],res:=[.bo],pre:=zeu,val:=zcM }
def k80:Con:={ args:=[I,(.sl I)],res:=[I],pre:=zet,val:=zbq }
def k144:Con:={ args:=[I,I],res:=[.bo],pre:=zdw,val:=zbY }
def k143:ICon:={ args:=[(.ref I)],two:=false,elt:=I,pre:=zes,seq:=zcL }
def k78:Con:={ args:=[I],res:=[(.sq false I)],pre:=zgB,val:=zdH }
def k77:Con:={ args:=[(.sl (.st (.p I I)))],res:=[(.mp I I)],pre:=zdL,val:=zaJ }
def k79:Con:={ args:=[(.mp I I),I],res:=[I],pre:=zdK,val:=zb }
def k153:Con:={ args:=[(.sq false I)],res:=[(.sl I)],pre:=zcn,val:=zaR }
def k152:Con:={ args:=[(.mp I I),(.sl I),(.sl I)],res:=[I,I],pre:=zdW,val:=zbO }
def k95:Con:={ args:=[(.sl I),(.sl (.st (.p I I)))],res:=[I,I],pre:=zgC,val:=zev }
def k76:NCon:={ args:=[(.sl I),I],res:=[(.sl I)],pos:=0,el:=3,box:=false,pre:=zdv,val:=zaF }
def k75:Con:={ args:=[(.sl I),(.sl (.st (.p I I)))],res:=[.bo],pre:=zgc,val:=box_can }
def k142:Con:={ args:=[I,(.ref (.f1 I .bo))],res:=[.bo],pre:=zbP,val:=zbE }
def k73:Con:={ args:=[I,(.f1 I .bo)],res:=[I],pre:=zbn,val:=zck }
def k84:NCon:={ args:=[(.sl (.st (.p I I)))],res:=[(.sl (.st (.p I I)))],pos:=0,el:=62,box:=false,pre:=zaM,val:=zab }
def k86:Con:={ args:=[I,(.ref (.sl I)),(.ref I),(.ref (.sl (.st (.p I I))))],res:=[.bo],pre:=zge,val:=zgE }
def k83:Con:={ args:=[(.sl I),(.sl (.st (.p I I))),I],res:=[I],pre:=zfx,val:=zak }
def k74:Con:={ args:=[I,(.ref (.sl I)),(.ref (.sl (.st (.p I I))))],res:=[.bo],pre:=zgd,val:=zgD }
def k22:Con:={ args:=[(.sl I),(.sl (.st (.p I I)))],res:=[I,I,I],pre:=zjb,val:=zca }
def k30:Con:={ args:=[(.sl I),(.sl (.st (.p I I))),I],res:=[I,I,I],pre:=zjc,val:=zbF }
def k26:Con:={ args:=[(.sl I),(.sl (.st (.p I I))),I],res:=[(.sl (.sl I)),I],pre:=zjd,val:=zaK }
def cx137:Cx:=mkCx TB 15 [] [] [] [] [] [] [] none
abbrev yZZ:=(Prod Int Int)
abbrev yZY:=(List (List Int))
abbrev yZX:=(Prod Int yZZ)
abbrev yZW:=(List (Int × Int))
abbrev yZV:=(Prod yZY Int)
def V137 (x:Int × Int × Int):Prop:=(((decide ((x.2.1:Int)<=x.1)&&decide ((x.1:Int)<=x.2.2)):Bool)=(zbg x))
theorem e137 (x:Ds k137.args):vcFun cx137 f137 k137 x=V137 x:=by kernel_rfl
def cx136:Cx:=mkCx TB 6 [(137,k137)] [] [] [] [] [] [] none
def V136 (x:Int):Prop:=((zcr (x,0,48))/\(((!(zbg (x,0,48))):Bool)=(zbZ x)))
theorem e136 (x:Ds k136.args):vcFun cx136 f136 k136 x=V136 x:=by kernel_rfl
def cx138:Cx:=mkCx TB 18 [(137,k137)] [] [] [] [] [] [] none
def V138 (x:(Int × Int) × List Int):Prop:=((((0:Int)<=(x.2.length:Int)/\((x.2.length:Int):Int)<64)/\Z.in64 (1*2^(yby ((x.2.length:Int)))))/\(Z.in64 ((1*2^(yby ((x.2.length:Int)))) - 1)/\((zcr (x.1.1,0,((1*2^(yby ((x.2.length:Int)))) - 1)))/\((((!(zbg (x.1.1,0,((1*2^(yby ((x.2.length:Int)))) - 1))))=false)->(zcr (x.1.2,0,1048576)))/\((((!(zbg (x.1.1,0,((1*2^(yby ((x.2.length:Int)))) - 1))))||(!(zbg (x.1.2,0,1048576)))):Bool)=(zcB x))))))
theorem e138 (x:Ds k138.args):vcFun cx138 f138 k138 x=V138 x:=by kernel_rfl
def cx180:Cx:=mkCx TB 19 [] [] [] [] [] [(2,⟨[(8,false)],[],[],[]⟩)] [] none
def V180 (x:(List Int) × Go.Sx.Fun Int Bool):Prop:=Z.LoopP (X:=Int) (0) (fun s0 K0=>(((decide ((s0:Int)<(x.1.length:Int))=true)->(((0:Int)<=s0/\(s0:Int)<(x.1.length:Int))/\((x.2.pre (x.1.getD (yby s0) 0))/\((((x.2.val (x.1.getD (yby s0) 0))=true)->((s0:Int)=(zaX x)))/\(((x.2.val (x.1.getD (yby s0) 0))=false)->(Z.in64 (s0+1)/\(K0 (s0+1))))))))/\((decide ((s0:Int)<(x.1.length:Int))=false)->(((-1):Int)=(zaX x)))))
theorem e180 (x:Ds k180.args):vcFun cx180 f180 k180 x=V180 x:=by kernel_rfl
def cx139:Cx:=mkCx TB 9 [(180,k180)] [] [] [] [] [] [] none
def V139 (x:(List Int) × Go.Sx.Fun Int Bool):Prop:=((zbH (x.1,x.2))/\((decide ((0:Int)<=(zaX (x.1,x.2))):Bool)=(zaz x)))
theorem e139 (x:Ds k139.args):vcFun cx139 f139 k139 x=V139 x:=by kernel_rfl
def cx181:Cx:=mkCx TB 19 [] [] [] [] [] [(2,⟨[(8,false)],[],[],[]⟩)] [] none
def V181 (x:yZW × Go.Sx.Fun (Int × Int) Bool):Prop:=Z.LoopP (X:=Int) (0) (fun s0 K0=>(((decide ((s0:Int)<(x.1.length:Int))=true)->(((0:Int)<=s0/\(s0:Int)<(x.1.length:Int))/\((x.2.pre (x.1.getD (yby s0) (0,0)))/\((((x.2.val (x.1.getD (yby s0) (0,0)))=true)->((s0:Int)=(zaw x)))/\(((x.2.val (x.1.getD (yby s0) (0,0)))=false)->(Z.in64 (s0+1)/\(K0 (s0+1))))))))/\((decide ((s0:Int)<(x.1.length:Int))=false)->(((-1):Int)=(zaw x)))))
theorem e181 (x:Ds k181.args):vcFun cx181 f181 k181 x=V181 x:=by kernel_rfl
def cx140:Cx:=mkCx TB 9 [(181,k181)] [] [] [] [] [] [] none
def V140 (x:yZW × Go.Sx.Fun (Int × Int) Bool):Prop:=((zbe (x.1,x.2))/\((decide ((0:Int)<=(zaw (x.1,x.2))):Bool)=(zar x)))
theorem e140 (x:Ds k140.args):vcFun cx140 f140 k140 x=V140 x:=by kernel_rfl
def cx141:Cx:=mkCx TB 25 [] [] [] [] [] [(5,⟨[(3,false),(4,false)],[],[],[]⟩)] [] none
def V141 (x:List Int):Prop:=(((decide (((x.length:Int):Int)<1)=true)->False)/\((decide (((x.length:Int):Int)<1)=false)->(((0:Int)<=0/\(0:Int)<(x.length:Int))/\Z.LoopP (X:=yZZ) (((x.getD (yby 0) 0),1)) (fun s0 K0=>(((decide ((s0.2:Int)<(x.length:Int))=true)->(((0:Int)<=s0.2/\(s0.2:Int)<(x.length:Int))/\(Z.in64 (s0.2+1)/\(K0 ((max s0.1 (x.getD (yby s0.2) 0)),(s0.2+1))))))/\((decide ((s0.2:Int)<(x.length:Int))=false)->((s0.1:Int)=(zcl x))))))))
theorem e141 (x:Ds k141.args):vcFun cx141 f141 k141 x=V141 x:=by kernel_rfl
def cx72:Cx:=mkCx TB 35 [(136,k136),(138,k138),(137,k137),(139,k139),(140,k140),(141,k141)] [] [] [] [] [] [] none
def V72 (x:(List Int) × List (Int × Int)):Prop:=((zcr ((x.1.length:Int),1,8))/\(((((zbg ((x.1.length:Int),1,8))&&decide (((x.2.length:Int):Int)<=8))=true)->(zbt (x.1,(⟨zby,zbZ⟩:Go.Sx.Fun (Int) (Bool)))))/\((((((zbg ((x.1.length:Int),1,8))&&decide (((x.2.length:Int):Int)<=8))&&(!(zaz (x.1,(⟨zby,zbZ⟩:Go.Sx.Fun (Int) (Bool))))))=true)->(zaW (x.2,(⟨(fun x0=>(zcj (x0,x.1))),(fun x1=>(zcB (x1,x.1)))⟩:Go.Sx.Fun (yZZ) (Bool)))))/\(((((((zbg ((x.1.length:Int),1,8))&&decide (((x.2.length:Int):Int)<=8))&&(!(zaz (x.1,(⟨zby,zbZ⟩:Go.Sx.Fun (Int) (Bool))))))&&(!(zar (x.2,(⟨(fun x2=>(zcj (x2,x.1))),(fun x3=>(zcB (x3,x.1)))⟩:Go.Sx.Fun (yZZ) (Bool))))))=true)->(zcT x.1))/\(((((((zbg ((x.1.length:Int),1,8))&&decide (((x.2.length:Int):Int)<=8))&&(!(zaz (x.1,(⟨zby,zbZ⟩:Go.Sx.Fun (Int) (Bool))))))&&(!(zar (x.2,(⟨(fun x4=>(zcj (x4,x.1))),(fun x5=>(zcB (x5,x.1)))⟩:Go.Sx.Fun (yZZ) (Bool))))))&&decide ((0:Int)<(zcl x.1))):Bool)=(zcN x))))))
theorem e72 (x:Ds k72.args):vcFun cx72 f72 k72 x=V72 x:=by kernel_rfl
def cx85:Cx:=mkCx TB 10 [] [] [] [] [] [] [] none
def V85 (x:Int × Int):Prop:=(((0:Int)<=x.2/\(x.2:Int)<64)/\(((0:Int)<=(ydv x.1 (2^(yby (x.2))))/\(0:Int)<=1)/\((((((yby ((ydv x.1 (2^(yby (x.2)))))) &&& (yby (1)):Nat):Int)==1):Bool)=(zcM x))))
theorem e85 (x:Ds k85.args):vcFun cx85 f85 k85 x=V85 x:=by kernel_rfl
def cx80:Cx:=mkCx TB 22 [(85,k85)] [] [] [] [] [(2,⟨[(4,false),(9,false)],[],[],[]⟩)] [] none
def V80 (x:Int × List Int):Prop:=Z.LoopP (X:=yZZ) ((0,0)) (fun s0 K0=>(((decide ((s0.2:Int)<(x.2.length:Int))=true)->(((0:Int)<=s0.2/\(s0.2:Int)<(x.2.length:Int))/\((zeu (x.1,s0.2))/\((((zcM (x.1,s0.2))=true)->(Z.in64 (s0.1+(x.2.getD (yby s0.2) 0))/\(Z.in64 (s0.2+1)/\(K0 ((s0.1+(x.2.getD (yby s0.2) 0)),(s0.2+1))))))/\(((zcM (x.1,s0.2))=false)->(Z.in64 (s0.2+1)/\(K0 (s0.1,(s0.2+1)))))))))/\((decide ((s0.2:Int)<(x.2.length:Int))=false)->((s0.1:Int)=(zbq x)))))
theorem e80 (x:Ds k80.args):vcFun cx80 f80 k80 x=V80 x:=by kernel_rfl
def cx144:Cx:=mkCx TB 9 [] [] [] [] [] [] [] none
def V144 (x:Int × Int):Prop:=(((0:Int)<=x.1/\(0:Int)<=x.2)/\(((!((((yby (x.1)) &&& (yby (x.2)):Nat):Int)==0)):Bool)=(zbY x)))
theorem e144 (x:Ds k144.args):vcFun cx144 f144 k144 x=V144 x:=by kernel_rfl
def cx143 (ly:Nat) (x:Ds k143.args):Cx:=mkCx TB 15 [] [] [] [] [] [(1,⟨[(3,false)],[300000],[],[]⟩)] [] (some ⟨ly,300000,k143.two,k143.elt,k143.seq x⟩)
def V143 (ly:Nat) (x:Int):Prop:=Z.LoopP (X:=(Prod Int (Prod (List Int) Bool))) ((1,[],false)) (fun s0 K0=>(True/\(True/\((((0:Int)<=x/\(x:Int)<64)/\Z.in64 (1*2^(yby (x))))/\(True/\(True/\(True/\(True/\(((decide ((s0.1:Int)<(1*2^(yby (x))))=true)->((((ly:Nat)=ly)/\(s0.2.2=false))/\((∃ r1,((zcL x)=(s0.2.1++(s0.1::r1))))/\((True/\((((decide ((s0.1:Int)<(1*2^(yby (x))))&&true)=true)->(Z.in64 (s0.1+1)/\(K0 ((s0.1+1),(s0.2.1++[s0.1]),false))))/\(((decide ((s0.1:Int)<(1*2^(yby (x))))&&true)=false)->((false=false)->(((s0.2.1++[s0.1]):(List Int))=(zcL x))))))/\(True/\((((decide ((s0.1:Int)<(1*2^(yby (x))))&&false)=true)->(Z.in64 (s0.1+1)/\(K0 ((s0.1+1),(s0.2.1++[s0.1]),true))))/\(((decide ((s0.1:Int)<(1*2^(yby (x))))&&false)=false)->((true=false)->(((s0.2.1++[s0.1]):(List Int))=(zcL x))))))))))/\((decide ((s0.1:Int)<(1*2^(yby (x))))=false)->(True/\((((decide ((s0.1:Int)<(1*2^(yby (x))))&&false)=true)->(Z.in64 (s0.1+1)/\(K0 ((s0.1+1),s0.2))))/\(((decide ((s0.1:Int)<(1*2^(yby (x))))&&false)=false)->((s0.2.2=false)->((s0.2.1:(List Int))=(zcL x))))))))))))))))
theorem e143 (ly:Nat) (x:Ds k143.args):vcIter (cx143 ly x) f143 k143 x=V143 ly x:=by kernel_rfl
def cx78:Cx:=mkCx TB 4 [] [] [(143,k143)] [] [] [] [] none
def V78 (x:Int):Prop:=((⟨(zes x),(zcL x)⟩:(Go.Sx.Seq Int))=(zdH x))
theorem e78 (x:Ds k78.args):vcFun cx78 f78 k78 x=V78 x:=by kernel_rfl
def cx77:Cx:=mkCx TB 22 [] [] [] [] [] [(3,⟨[(9,false)],[6],[],[]⟩)] [] none
def V77 (x:List (Int × Int)):Prop:=Z.LoopP (X:=(Prod Int (Int->(Option Int)))) ((0,(fun x1=>(none:Option (Int))))) (fun s0 K0=>(((decide ((s0.1:Int)<(x.length:Int))=true)->(((0:Int)<=s0.1/\(s0.1:Int)<(x.length:Int))/\(Z.in64 (((s0.2 ((x.getD (yby s0.1) (0,0)).1)).getD 0)+(x.getD (yby s0.1) (0,0)).2)/\(Z.in64 (s0.1+1)/\(K0 ((s0.1+1),(@Go.Sx.Z.mput (Int) (Int) (fun x2=>(fun x3=>(x2==x3))) s0.2 ((x.getD (yby s0.1) (0,0)).1) (((s0.2 ((x.getD (yby s0.1) (0,0)).1)).getD 0)+(x.getD (yby s0.1) (0,0)).2))))))))/\((decide ((s0.1:Int)<(x.length:Int))=false)->((s0.2:(Int->(Option Int)))=(zaJ x)))))
theorem e77 (x:Ds k77.args):vcFun cx77 f77 k77 x=V77 x:=by kernel_rfl
def cx79:Cx:=mkCx TB 24 [(144,k144)] [] [] [] [] [(3,⟨[(4,false)],[11],[],[]⟩)] [] none
def V79 (x:(Int->Option Int) × Int):Prop:=Z.LoopP (X:=(Prod Int (Prod (Int->(Option Int)) (List yZZ)))) ((0,x.1,[])) (fun s0 K0=>((∀ k1,(∀ v2,(((s0.2.1 k1)=(some (v2):Option (Int)))->((∀ p3,((@ydC yZZ p3 s0.2.2)->((p3.1=k1)->False)))->(True/\(((true=true)->(((0:Int)<=0/\(0:Int)<(((k1,v2)::s0.2.2).length:Int))/\((zdw (x.2,(((k1,v2)::s0.2.2).getD 0 (0,0)).1))/\((((zbY (x.2,(((k1,v2)::s0.2.2).getD 0 (0,0)).1))=true)->(Z.in64 (s0.1+(((k1,v2)::s0.2.2).getD 0 (0,0)).2)/\(K0 ((s0.1+(((k1,v2)::s0.2.2).getD 0 (0,0)).2),s0.2.1,((k1,v2)::s0.2.2)))))/\(((zbY (x.2,(((k1,v2)::s0.2.2).getD 0 (0,0)).1))=false)->(K0 (s0.1,s0.2.1,((k1,v2)::s0.2.2))))))))/\((true=false)->((s0.1:Int)=(zb x)))))))))/\((∀ k4,(∀ v5,(((s0.2.1 k4)=(some (v5):Option (Int)))->(∃ r6,((@ydC yZZ r6 s0.2.2)/\(r6.1=k4))))))->(True/\(((false=true)->(((0:Int)<=0/\(0:Int)<(s0.2.2.length:Int))/\((zdw (x.2,(s0.2.2.getD 0 (0,0)).1))/\((((zbY (x.2,(s0.2.2.getD 0 (0,0)).1))=true)->(Z.in64 (s0.1+(s0.2.2.getD 0 (0,0)).2)/\(K0 ((s0.1+(s0.2.2.getD 0 (0,0)).2),s0.2.1,s0.2.2))))/\(((zbY (x.2,(s0.2.2.getD 0 (0,0)).1))=false)->(K0 (s0.1,s0.2.1,s0.2.2)))))))/\((false=false)->((s0.1:Int)=(zb x))))))))
theorem e79 (x:Ds k79.args):vcFun cx79 f79 k79 x=V79 x:=by kernel_rfl
def zpB:Cx:=withHld [2] <| mkCx TB 13 [] [] [] [] [2] [(2,⟨[],[2,150128],[],[]⟩)] [] none
def i153u_4:Inl:=mkInl 192 1000000 5000000 zpB f192
def cx153:Cx:=withInl [(4,i153u_4)] <| mkCx TB 5 [] [] [] [] [] [] [] none
def V153 (x:Go.Sx.Seq Int):Prop:=(True/\(x.1/\Z.RangeP (X:=(Prod (List Int) (List Int))) (([],[])) x.2 (fun e0 s0 K0=>(Z.roomy 1 ((s0.2++((yaa 1 0).set 0 e0)).length:Int)/\(K0 (s0.1,(s0.2++((yaa 1 0).set 0 e0)))))) (fun s0=>(True/\((s0.2:(List Int))=(zaR x))))))
theorem e153 (x:Ds k153.args):vcFun cx153 f153 k153 x=V153 x:=by kernel_rfl
def cx152:Cx:=mkCx TB 32 [(80,k80),(79,k79)] [] [] [] [] [(2,⟨[(6,false),(7,false),(13,false)],[],[],[]⟩)] [] none
def V152 (x:(Int->Option Int) × (List Int) × List Int):Prop:=Z.LoopP (X:=yZX) ((0,0,0)) (fun s0 K0=>(((decide ((s0.2.2:Int)<(x.2.2.length:Int))=true)->(((0:Int)<=s0.2.2/\(s0.2.2:Int)<(x.2.2.length:Int))/\((zet ((x.2.2.getD (yby s0.2.2) 0),x.2.1))/\((zdK (x.1,(x.2.2.getD (yby s0.2.2) 0)))/\(Z.in64 ((zbq ((x.2.2.getD (yby s0.2.2) 0),x.2.1)) - (zb (x.1,(x.2.2.getD (yby s0.2.2) 0))))/\(((decide ((s0.2.1:Int)<((zbq ((x.2.2.getD (yby s0.2.2) 0),x.2.1)) - (zb (x.1,(x.2.2.getD (yby s0.2.2) 0)))))=true)->(Z.in64 (s0.2.2+1)/\(K0 ((x.2.2.getD (yby s0.2.2) 0),((zbq ((x.2.2.getD (yby s0.2.2) 0),x.2.1)) - (zb (x.1,(x.2.2.getD (yby s0.2.2) 0)))),(s0.2.2+1)))))/\((decide ((s0.2.1:Int)<((zbq ((x.2.2.getD (yby s0.2.2) 0),x.2.1)) - (zb (x.1,(x.2.2.getD (yby s0.2.2) 0)))))=false)->(Z.in64 (s0.2.2+1)/\(K0 (s0.1,s0.2.1,(s0.2.2+1)))))))))))/\((decide ((s0.2.2:Int)<(x.2.2.length:Int))=false)->(((s0.1,s0.2.1):yZZ)=(zbO x)))))
theorem e152 (x:Ds k152.args):vcFun cx152 f152 k152 x=V152 x:=by kernel_rfl
def cx95:Cx:=mkCx TB 16 [(77,k77),(78,k78),(153,k153),(152,k152)] [] [] [] [] [] [] none
def V95 (x:(List Int) × List (Int × Int)):Prop:=((zdL x.2)/\((zgB (x.1.length:Int))/\((zcn (zdH (x.1.length:Int)))/\((zdW ((zaJ x.2),x.1,(zaR (zdH (x.1.length:Int)))))/\((((zbO ((zaJ x.2),x.1,(zaR (zdH (x.1.length:Int))))).1,(zbO ((zaJ x.2),x.1,(zaR (zdH (x.1.length:Int))))).2):yZZ)=(zev x))))))
theorem e95 (x:Ds k95.args):vcFun cx95 f95 k95 x=V95 x:=by kernel_rfl
def cx76:Cx:=mkCxN TB 23 [] [] [] [(87,k87)] [] [] [(3,⟨[(11,false)],[8],[],[]⟩)] [] none
def V76 (x:(List Int) × Int):Prop:=((zbf x.1)/\Z.LoopP (X:=(Prod Int (List Int))) ((0,(zaj x.1))) (fun s0 K0=>(((decide ((s0.1:Int)<((zaj x.1).length:Int))=true)->(((0:Int)<=s0.1/\(s0.1:Int)<(s0.2.length:Int))/\(Z.in64 ((s0.2.getD (yby s0.1) 0)*x.2)/\(((0:Int)<=s0.1/\(s0.1:Int)<(s0.2.length:Int))/\(Z.in64 (s0.1+1)/\(K0 ((s0.1+1),(s0.2.set (yby s0.1) ((s0.2.getD (yby s0.1) 0)*x.2)))))))))/\((decide ((s0.1:Int)<((zaj x.1).length:Int))=false)->((s0.2:(List Int))=(zaF x))))))
theorem e76 (x:Ds k76.args):vcFunN cx76 f76 k76 x=V76 x:=by kernel_rfl
def cx75:Cx:=mkCx TB 15 [(95,k95)] [] [] [] [] [] [] none
def V75 (x:(List Int) × List (Int × Int)):Prop:=((zgC (x.1,x.2))/\((((zev (x.1,x.2)).2==0):Bool)=(box_can x)))
theorem e75 (x:Ds k75.args):vcFun cx75 f75 k75 x=V75 x:=by kernel_rfl
def cx142:Cx:=mkCx TB 9 [] [] [] [] [] [] [] none
def V142 (x:Int × Go.Sx.Fun Int Bool):Prop:=(Z.in64 (x.1+1)/\((x.2.pre (x.1+1))/\(((!(x.2.val (x.1+1))):Bool)=(zbE x))))
theorem e142 (x:Ds k142.args):vcFun cx142 f142 k142 x=V142 x:=by kernel_rfl
def cx73:Cx:=mkCx TB 8 [(142,k142),(62,k62)] [] [] [] [] [] [] none
def V73 (x:Int × Go.Sx.Fun Int Bool):Prop:=((zcZ (x.1,(⟨(fun x0=>(zbP (x0,x.2))),(fun x1=>(zbE (x1,x.2)))⟩:Go.Sx.Fun (Int) (Bool))))/\(((zdi (x.1,(⟨(fun x2=>(zbP (x2,x.2))),(fun x3=>(zbE (x3,x.2)))⟩:Go.Sx.Fun (Int) (Bool)))):Int)=(zck x)))
theorem e73 (x:Ds k73.args):vcFun cx73 f73 k73 x=V73 x:=by kernel_rfl
def cx84:Cx:=mkCx TB 8 [] [] [] [] [] [] [] none
def V84 (x:List (Int × Int)):Prop:=(True/\(((x=[])->(((true=true)->(([]:(List yZZ))=(zab x)))/\((true=false)->(Z.roomy 2 (((yaa 0 (0,0))++x).length:Int)/\((((yaa 0 (0,0))++x):(List yZZ))=(zab x))))))/\(((false=true)->(([]:(List yZZ))=(zab x)))/\((false=false)->(Z.roomy 2 (((yaa 0 (0,0))++x).length:Int)/\((((yaa 0 (0,0))++x):(List yZZ))=(zab x)))))))
theorem e84 (x:Ds k84.args):vcFunN cx84 f84 k84 x=V84 x:=by kernel_rfl
def cx86:Cx:=mkCxN TB 26 [(75,k75)] [] [] [(87,k87),(84,k84)] [] [] [] [] none
def V86 (x:Int × (List Int) × Int × List (Int × Int)):Prop:=((zbf x.2.1)/\(((0:Int)<=x.2.2.1/\(x.2.2.1:Int)<((zaj x.2.1).length:Int))/\((zaM x.2.2.2)/\(((0:Int)<=0/\(0:Int)<((zab x.2.2.2).length:Int))/\(Z.in64 (((zab x.2.2.2).getD (yby 0) (0,0)).2 - x.1)/\(((0:Int)<=0/\(0:Int)<((zab x.2.2.2).length:Int))/\((zgc (((zaj x.2.1).set (yby x.2.2.1) 0),((zab x.2.2.2).set (yby 0) (((zab x.2.2.2).getD (yby 0) (0,0)).1,(((zab x.2.2.2).getD (yby 0) (0,0)).2 - x.1)))))/\(((box_can (((zaj x.2.1).set (yby x.2.2.1) 0),((zab x.2.2.2).set (yby 0) (((zab x.2.2.2).getD (yby 0) (0,0)).1,(((zab x.2.2.2).getD (yby 0) (0,0)).2 - x.1))))):Bool)=(zgE x)))))))))
theorem e86 (x:Ds k86.args):vcFun cx86 f86 k86 x=V86 x:=by kernel_rfl
def cx83:Cx:=mkCx TB 16 [(72,k72),(137,k137)] [] [] [] [] [] [] none
def V83 (x:(List Int) × yZW × Int):Prop:=((zew (x.1,x.2.1))/\((((!(zcN (x.1,x.2.1)))=true)->((1:Int)=(zak x)))/\(((!(zcN (x.1,x.2.1)))=false)->((zcr (x.2.2,0,1048576))/\((((!(zbg (x.2.2,0,1048576)))=true)->((2:Int)=(zak x)))/\(((!(zbg (x.2.2,0,1048576)))=false)->((0:Int)=(zak x))))))))
theorem e83 (x:Ds k83.args):vcFun cx83 f83 k83 x=V83 x:=by kernel_rfl
def cx74:Cx:=mkCxN TB 10 [(75,k75)] [] [] [(76,k76)] [] [] [] [] none
def V74 (x:Int × (List Int) × List (Int × Int)):Prop:=((zdv (x.2.1,x.1))/\((zgc ((zaF (x.2.1,x.1)),x.2.2))/\(((box_can ((zaF (x.2.1,x.1)),x.2.2)):Bool)=(zgD x))))
theorem e74 (x:Ds k74.args):vcFun cx74 f74 k74 x=V74 x:=by kernel_rfl
def cx22:Cx:=mkCxN TB 35 [(72,k72),(74,k74),(73,k73),(77,k77),(78,k78),(79,k79),(80,k80)] [] [] [(76,k76)] [7,8] [] [(6,⟨[],[4,5,6],[21,7,8],[]⟩)] [] none
def V22 (x:(List Int) × List (Int × Int)):Prop:=((zew (x.1,x.2))/\((((!(zcN (x.1,x.2)))=true)->(((0,0,1):yZX)=(zca x)))/\(((!(zcN (x.1,x.2)))=false)->((zbn (8388608,(mostF x.1 x.2)))/\((zdL x.2)/\(Z.in64 ((mostB x)+1)/\((zdv (x.1,((mostB x)+1)))/\((zgB (x.1.length:Int))/\((zdH (x.1.length:Int)).1/\Z.RangeP (X:=yZX) (((mostB x),0,0)) ((zdH (x.1.length:Int)).2) (fun e6 s6 K6=>((zdK ((zaJ x.2),e6))/\((zet (e6,(zaF (x.1,((mostB x)+1)))))/\(((decide (((zbq (e6,(zaF (x.1,((mostB x)+1))))):Int)<=(zb ((zaJ x.2),e6)))=true)->((((zaF (x.1,((mostB x)+1))):(List Int))=(zaF (x.1,((mostB x)+1))))/\((((zaJ x.2):(Int->(Option Int)))=(zaJ x.2))/\(True/\(K6 (s6.1,s6.2.1,s6.2.2))))))/\((decide (((zbq (e6,(zaF (x.1,((mostB x)+1))))):Int)<=(zb ((zaJ x.2),e6)))=false)->((((zaF (x.1,((mostB x)+1))):(List Int))=(zaF (x.1,((mostB x)+1))))/\((((zaJ x.2):(Int->(Option Int)))=(zaJ x.2))/\(True/\(((s6.1,e6,0):yZX)=(zca x)))))))))) (fun s6=>(((0,0,4):yZX)=(zca x))))))))))))
theorem e22 (x:Ds k22.args):vcFun cx22 f22 k22 x=V22 x:=by kernel_rfl
def cx30:Cx:=mkCxN TB 31 [(83,k83),(95,k95)] [] [] [(76,k76)] [] [] [] [] none
def V30 (x:(List Int) × yZW × Int):Prop:=((zfx (x.1,x.2.1,x.2.2))/\((((!((zak (x.1,x.2.1,x.2.2))==0))=true)->(((0,0,(zak (x.1,x.2.1,x.2.2))):yZX)=(zbF x)))/\(((!((zak (x.1,x.2.1,x.2.2))==0))=false)->((zdv (x.1,x.2.2))/\((zgC ((zaF (x.1,x.2.2)),x.2.1))/\(((((zev ((zaF (x.1,x.2.2)),x.2.1)).2==0)=true)->(((0,0,4):yZX)=(zbF x)))/\((((zev ((zaF (x.1,x.2.2)),x.2.1)).2==0)=false)->((((zev ((zaF (x.1,x.2.2)),x.2.1)).1,(zev ((zaF (x.1,x.2.2)),x.2.1)).2,0):yZX)=(zbF x)))))))))
theorem e30 (x:Ds k30.args):vcFun cx30 f30 k30 x=V30 x:=by kernel_rfl
def cx26:Cx:=withR [101] <| withHld [9,12] <| mkCxN TB 118 [(83,k83),(75,k75),(85,k85),(86,k86),(73,k73)] [] [] [(76,k76),(84,k84),(87,k87)] [] [] [(9,⟨[(35,false)],[10,28],[9],[]⟩),(14,⟨[(46,false)],[10,28,41],[9,12],[]⟩),(27,⟨[(104,false)],[101],[9,10,28],[10]⟩)] [] none
def V26 (x:(List Int) × yZW × Int):Prop:=((zfx (x.1,x.2.1,x.2.2))/\((((!((zak (x.1,x.2.1,x.2.2))==0))=true)->((([],(zak (x.1,x.2.1,x.2.2))):yZV)=(zaK x)))/\(((!((zak (x.1,x.2.1,x.2.2))==0))=false)->((zdv (x.1,x.2.2))/\((zgc ((zaF (x.1,x.2.2)),x.2.1))/\((((!(box_can ((zaF (x.1,x.2.2)),x.2.1)))=true)->((([],10):yZV)=(zaK x)))/\(((!(box_can ((zaF (x.1,x.2.2)),x.2.1)))=false)->Z.LoopP (X:=(Prod Int (Prod yZY (List Int)))) ((0,(yaa 8 (yaa 8 0)),(zaF (x.1,x.2.2)))) (fun s0 K0=>(((decide ((s0.1:Int)<(x.2.1.length:Int))=true)->(((0:Int)<=s0.1/\(s0.1:Int)<=(x.2.1.length:Int))/\((zaM (x.2.1.drop (yby s0.1)))/\(((0:Int)<=0/\(0:Int)<((zab (x.2.1.drop (yby s0.1))).length:Int))/\Z.LoopP (X:=(Prod Int (Prod yZY (Prod (List Int) (List yZZ))))) ((0,s0.2.1,s0.2.2,(zab (x.2.1.drop (yby s0.1))))) (fun s1 K1=>(((decide ((s1.1:Int)<(x.1.length:Int))=true)->((zeu ((s1.2.2.2.getD (yby 0) (0,0)).1,s1.1))/\((((!(zcM ((s1.2.2.2.getD (yby 0) (0,0)).1,s1.1)))=true)->(Z.in64 (s1.1+1)/\((([]:(List Int))=[])/\((([]:(List yZZ))=[])/\(K1 ((s1.1+1),s1.2.1,s1.2.2.1,s1.2.2.2))))))/\(((!(zcM ((s1.2.2.2.getD (yby 0) (0,0)).1,s1.1)))=false)->((((0:Int)<=s1.1/\(s1.1:Int)<64)/\Z.in64 (1*2^(yby (s1.1))))/\(((0:Int)<=(s1.2.2.2.getD (yby 0) (0,0)).1/\(0:Int)<=(1*2^(yby (s1.1))))/\(((0:Int)<=s1.1/\(s1.1:Int)<(s1.2.2.1.length:Int))/\((zbn ((min (((offP' s1.1 s1.2.2.2).getD (yby 0) (0,0)).2) (s1.2.2.1.getD (yby s1.1) 0)),(ownF s1.2.2.1 s1.1 (offP' s1.1 s1.2.2.2))))/\(((0:Int)<=s0.1/\(s0.1:Int)<8)/\(((0:Int)<=s1.1/\(s1.1:Int)<8)/\(((0:Int)<=s1.1/\(s1.1:Int)<(s1.2.2.1.length:Int))/\(Z.in64 ((s1.2.2.1.getD (yby s1.1) 0) - (numF s1.2.2.1 s1.1 (offP' s1.1 s1.2.2.2)))/\(((0:Int)<=s1.1/\(s1.1:Int)<(s1.2.2.1.length:Int))/\(Z.in64 (((offP' s1.1 s1.2.2.2).getD (yby 0) (0,0)).2 - (numF s1.2.2.1 s1.1 (offP' s1.1 s1.2.2.2)))/\(Z.in64 (s1.1+1)/\((([]:(List Int))=[])/\((([]:(List yZZ))=[])/\(K1 ((s1.1+1),(s1.2.1.set (yby s0.1) ((s1.2.1.getD (yby s0.1) (yaa 8 0)).set (yby s1.1) (numF s1.2.2.1 s1.1 (offP' s1.1 s1.2.2.2)))),(s1.2.2.1.set (yby s1.1) ((s1.2.2.1.getD (yby s1.1) 0) - (numF s1.2.2.1 s1.1 (offP' s1.1 s1.2.2.2)))),((offP' s1.1 s1.2.2.2).set (yby 0) (((offP' s1.1 s1.2.2.2).getD (yby 0) (0,0)).1,(((offP' s1.1 s1.2.2.2).getD (yby 0) (0,0)).2 - (numF s1.2.2.1 s1.1 (offP' s1.1 s1.2.2.2))))))))))))))))))))))))/\((decide ((s1.1:Int)<(x.1.length:Int))=false)->(Z.in64 (s0.1+1)/\((([]:(List Int))=[])/\(K0 ((s0.1+1),s1.2.1,s1.2.2.1)))))))))))/\((decide ((s0.1:Int)<(x.2.1.length:Int))=false)->((((0:Int)<=(x.2.1.length:Int)/\((x.2.1.length:Int):Int)<=(x.2.1.length:Int))/\Z.roomy 1 (x.2.1.length:Int))/\Z.LoopP (X:=(Prod Int yZY)) ((0,(yaa (yby (x.2.1.length:Int)) ([]:List Int)))) (fun s14 K14=>(((decide ((s14.1:Int)<((yaa (yby (x.2.1.length:Int)) ([]:List Int)).length:Int))=true)->(((0:Int)<=s14.1/\(s14.1:Int)<8)/\(((0:Int)<=(x.1.length:Int)/\((x.1.length:Int):Int)<=8)/\((zbf ((s0.2.1.getD (yby s14.1) (yaa 8 0)).take (yby (x.1.length:Int))))/\(((0:Int)<=s14.1/\(s14.1:Int)<(s14.2.length:Int))/\(Z.in64 (s14.1+1)/\((([]:(List Int))=[])/\(((s0.2.1:yZY)=s0.2.1)/\(((s0.2.2:(List Int))=s0.2.2)/\(K14 ((s14.1+1),(s14.2.set (yby s14.1) (zaj ((s0.2.1.getD (yby s14.1) (yaa 8 0)).take (yby (x.1.length:Int))))))))))))))))/\((decide ((s14.1:Int)<((yaa (yby (x.2.1.length:Int)) ([]:List Int)).length:Int))=false)->(((s14.2,0):yZV)=(zaK x))))))))))))))))
theorem e26 (x:Ds k26.args):vcFun cx26 f26 k26 x=V26 x:=by kernel_rfl
end Go.Tt
/-
 Box: small conditions.
-/
namespace Go.Tt
open Go Go.Sx
theorem zau:TabsOk prog TB:=⟨by kernel_rfl,maps_ok⟩
theorem v137 (x:Int × Int × Int) (_:k137.pre x):V137 x:=rfl
theorem v136 (x:Int) (_:k136.pre x):V136 x:=⟨trivial,rfl⟩
theorem all_len (n:Nat):(1*2^(yby (n:Int)):Int) - 1=allV n:=by
 simp only [allV,ydt,ydy]
theorem v138 (x:Pile × List Int) (h:k138.pre x):V138 x:=by
 have h:x.2.length<=8:=h
 have e:=all_len x.2.length
 obtain ⟨h1,h2⟩:=shl_ok (k:=(x.2.length:Int)) (by omega) (by omega)
 simp only [V138,e]
 refine ⟨⟨h1,h2⟩,?_,trivial,fun _=>trivial,?_⟩
 ·rw [<-e]
  have:=pow_nn (x.2.length:Int)
  simp only [Z.in64] at h2 ⊢
  omega
 ·show ((!inB x.1.1 0 (allV x.2.length))||(!inB x.1.2 0 1048576))=!pileB x.2.length x.1
  simp only [pileB,Bool.not_and]
theorem v180 (x:(List Int) × Fun Int Bool) (h:k180.pre x):V180 x:=zfR x.1 0 x.2 h.1 h.2
theorem v139 (x:(List Int) × Fun Int Bool) (h:k139.pre x):V139 x:=⟨h,any_ix _ _⟩
theorem v181 (x:(List Pile) × Fun Pile Bool) (h:k181.pre x):V181 x:=zfR x.1 (0,0) x.2 h.1 h.2
theorem v140 (x:(List Pile) × Fun Pile Bool) (h:k140.pre x):V140 x:=⟨h,any_ix _ _⟩
theorem v141 (x:List Int) (h:k141.pre x):V141 x:=by
 have h:1<=x.length/\x.length<=big:=h
 refine ⟨fun h1=>?_,fun _=>⟨⟨by omega,by omega⟩,?_⟩⟩
 ·have:=of_decide_eq_true h1;omega
 cases x with
 | nil=>simp at h
 | cons a l =>
  refine ⟨fun s=>(1<=s.2/\s.2<=((a::l).length:Int))/\((a::l).drop s.2.toNat).foldl max s.1=maxV (a::l),fun s=>(((a::l).length:Int) - s.2).toNat,⟨⟨by simp,by simp only [ybT];omega⟩,?_⟩,?_⟩
  ·show (l.foldl max a)=_;rfl
  rintro ⟨m,s⟩ ⟨⟨s1,s2⟩,s3⟩
  simp only at s1 s2 s3 ⊢
  refine ⟨fun hd=>?_,fun hd=>?_⟩
  ·have hd:=of_decide_eq_true hd
   refine ⟨⟨by omega,hd⟩,by simp only [Z.in64,big] at *;omega,⟨⟨by omega,by omega⟩,?_⟩,by omega⟩
   rw [zcK (a::l) 0 s (by omega) hd,ybD] at s3
   exact s3
  ·have hd:=of_decide_eq_false hd
   rw [ydc (by omega)] at s3
   exact s3
theorem v72 (x:(List Int) × List Pile) (_:k72.pre x):V72 x:=by
 have hin:∀ {b:Bool},((zbg ((x.1.length:Int),1,8)&&decide (((x.2.length:Int):Int)<=8))&&b)=true->x.1.length<=8/\1<=x.1.length/\x.2.length<=8:=by
  intro b h
  have h:=yac _ _▸h
  have h:=yac _ _▸h.1
  have h1:=inB_iff.1 (show inB (x.1.length:Int) 1 8=true from h.1)
  have h2:=of_decide_eq_true h.2
  omega
 refine ⟨trivial,fun h=>?_,fun h=>?_,fun h=>?_,?_⟩
 ·have:=hin (b:=true) (by rw [h];rfl)
  exact ⟨by show x.1.length<=big;simp only [big];omega,fun _ _=>trivial⟩
 ·have:=hin h
  exact ⟨by show x.2.length<=big;simp only [big];omega,fun _ _=>this.1⟩
 ·have h:=yac _ _▸h
  have:=hin h.1
  exact ⟨this.2.1,by simp only [big];omega⟩
 ·show ((((inB (x.1.length:Int) 1 8&&decide ((x.2.length:Int)<=8))&&!(x.1.any fun a=>!needB a))&&!(x.2.any fun a=>!pileB x.1.length a))&&decide ((0:Int)<maxV x.1))=boxB x.1 x.2
  rw [any_not,any_not];rfl
theorem v85 (x:Int × Int) (h:k85.pre x):V85 x:=by
 obtain ⟨h1,h2,h3⟩:0<=x.1/\0<=x.2/\x.2<64:=h
 refine ⟨⟨h2,h3⟩,⟨?_,by decide⟩,has_div h1 h2⟩
 rw [yaS _ (yaT (yaR (by decide)))]
 exact yaX h1 (yaT (yaR (by decide)))
theorem v144 (x:Int × Int) (h:k144.pre x):V144 x:=⟨h,rfl⟩
theorem v78 (x:Int) (_:k78.pre x):V78 x:=rfl
theorem v84 (x:List Pile) (h:k84.pre x):V84 x:=by
 have h:x.length<=big:=h
 have hr:Z.roomy 2 (((yaa 0 ((0,0):Pile))++x).length:Int):=by
  simp only [Z.roomy,big] at *;simp;omega
 exact ⟨trivial,fun h0=>⟨fun _=>h0.symm,(fun h=>by cases h)⟩,(fun h=>by cases h),fun _=>⟨hr,rfl⟩⟩
theorem v142 (x:Int × Fun Int Bool) (h:k142.pre x):V142 x:=by
 obtain ⟨⟨h1,h2⟩,h3⟩:(0<=x.1/\x.1<=most40)/\x.2.pre (x.1+1):=h
 exact ⟨by simp only [Z.in64,most40] at *;omega,h3,rfl⟩
theorem v73 (x:Int × Fun Int Bool) (h:k73.pre x):V73 x:=by
 obtain ⟨⟨h1,h2⟩,h3⟩:(0<=x.1/\x.1<=most40)/\∀ i,1<=i->i<=x.1->x.2.pre i:=h
 exact ⟨⟨⟨h1,by simp only [most40] at *;omega⟩,fun i i0 i1=>⟨⟨i0,by simp only [most40] at *;omega⟩,h3 _ (by omega) (by omega)⟩⟩,rfl⟩
theorem v76 (x:(List Int) × Int) (h:k76.pre x):V76 x:=by
 obtain ⟨h8,hn,h0,h1⟩:x.1.length<=8/\(∀ n∈x.1,0<=n/\n<=48)/\0<=x.2/\x.2<=8388609:=h
 refine ⟨(by show x.1.length<=1000;omega),fun s=>(0<=s.1/\s.1<=(x.1.length:Int))/\s.2=(timesV (x.1.take s.1.toNat) x.2)++x.1.drop s.1.toNat,fun s=>((x.1.length:Int) - s.1).toNat,⟨⟨by simp,by simp⟩,rfl⟩,?_⟩
 rintro ⟨i,l⟩ ⟨⟨i0,i1⟩,e⟩
 simp only at i0 i1 e ⊢
 have hlen:l.length=x.1.length:=by
  rw [e,yao,timesV,ycK,ybo,ybJ];omega
 refine ⟨fun hd=>?_,fun hd=>?_⟩
 ·have hd:i<(x.1.length:Int):=of_decide_eq_true hd
  have hd':i.toNat<x.1.length:=by omega
  have hg:l.getD i.toNat 0=x.1.getD i.toNat 0:=by
   rw [e,ybd,List.getElem?_append_right (by simp [timesV];omega)]
   simp only [timesV,ycK,ybo,List.getElem?_drop]
   rw [ybd]
   congr 2
   omega
  have hb:=hn _ (zcv x.1 0 i i0 hd)
  have hm:0<=x.1.getD i.toNat 0*x.2/\x.1.getD i.toNat 0*x.2<=48*8388609:=by
   constructor
   ·exact ydD hb.1 h0
   ·exact ydE hb.2 h1 h0 (by decide)
  rw [hg]
  refine ⟨⟨i0,by omega⟩,by simp only [Z.in64];omega,⟨i0,by omega⟩,by simp only [Z.in64];omega,⟨⟨by omega,by omega⟩,?_⟩,by omega⟩
  rw [e,zlL (fun n=>n*x.2) x.1 0 i i0 hd |> (fun h=>show timesV (x.1.take (i+1).toNat) x.2=timesV (x.1.take i.toNat) x.2++[x.1.getD i.toNat 0*x.2] from h)]
  rw [ydF _ _ (by simp [timesV];omega)]
  have h5:(timesV (x.1.take i.toNat) x.2).length=i.toNat:=by simp [timesV];omega
  rw [h5,ydq,zcK x.1 0 i i0 hd]
  simp
 ·have hd:=of_decide_eq_false hd
  have hd:¬ i<(x.1.length:Int):=hd
  show l=timesV x.1 x.2
  rw [e,ydG (by omega),ydc (by omega),ydr]
end Go.Tt
/-
 Box: sums,sets,the stock,what lacks.
-/
namespace Go.Tt
open Go Go.Sx
theorem zlR {p:Nat->Bool}:∀ {l:List Int} {k:Nat},(∀ a∈l,0<=a/\a<=most40)->0<=selS p l k/\selS p l k<=most40*(l.length:Int)
 | [],k,_=>by simp [selS]
 | a::l,k,h=>by
  have:=zlR (p:=p) (l:=l) (k:=k+1) fun b hb=>h b (yal _ hb)
  have ha:=h a yam
  simp only [most40] at ha this ⊢
  simp only [selS,ybT]
  cases p k<;>simp only [cond_true,cond_false]<;>omega
theorem sum_b40 {l:List Int} (h8:l.length<=8) (h:∀ a∈l,0<=a/\a<=most40) (s:Int):0<=sumV s l/\sumV s l<=most40*8:=by
 have:=zlR (p:=fun k=>hasB s (k:Nat)) (k:=0) h
 simp only [sumV,most40] at this ⊢
 omega
theorem v80 (x:Int × List Int) (h:k80.pre x):V80 x:=by
 obtain ⟨hs,h8,hb⟩:0<=x.1/\x.2.length<=8/\∀ n∈x.2,0<=n/\n<=most40:=h
 refine ⟨fun s=>(0<=s.2/\s.2<=(x.2.length:Int))/\s.1=sumV x.1 (x.2.take s.2.toNat),fun s=>((x.2.length:Int) - s.2).toNat,⟨⟨by simp,by simp⟩,rfl⟩,?_⟩
 rintro ⟨a,i⟩ ⟨⟨i0,i1⟩,e⟩
 simp only at i0 i1 e ⊢
 refine ⟨fun hd=>?_,fun hd=>?_⟩
 ·have hd:i<(x.2.length:Int):=of_decide_eq_true hd
  have hg:=hb _ (zcv x.2 0 i i0 hd)
  have hs2:sumV x.1 (x.2.take (i+1).toNat)=a+cond (hasB x.1 i) (x.2.getD i.toNat 0) 0:=by
   rw [e,sumV,zkq _ _ _ i0 hd]
   have:((i.toNat:Nat):Int)=i:=by omega
   rw [this];rfl
  have hab:=sum_b40 (l:=x.2.take i.toNat) (by rw [ybo];omega) (fun a ha=>hb a (ydH ha)) x.1
  rw [<-e] at hab
  refine ⟨⟨i0,hd⟩,⟨hs,i0,by show i<64;omega⟩,fun hh=>⟨?_,?_,⟨⟨by omega,by omega⟩,?_⟩,by omega⟩,fun hh=>⟨?_,⟨⟨by omega,by omega⟩,?_⟩,by omega⟩⟩
  ·simp only [Z.in64,most40] at *;omega
  ·simp only [Z.in64];omega
  ·have hh:hasB x.1 i=true:=hh
   rw [hs2,hh];rfl
  ·simp only [Z.in64];omega
  ·have hh:hasB x.1 i=false:=hh
   rw [hs2,hh,cond_false,ydI]
 ·have hd:=of_decide_eq_false hd
  have hd:¬ i<(x.2.length:Int):=hd
  show a=sumV x.1 x.2
  rw [e,ydG (by omega)]
theorem zhd (n:Nat):(setsV n).length=2^n - 1:=by simp [setsV]
theorem zlP {n:Nat} {s:Int}:s∈setsV n↔1<=s/\s<2^n:=by
 simp only [setsV,ycp,ycU]
 rw [pow_nat]
 generalize 2^n=m
 constructor
 ·rintro ⟨k,hk,rfl⟩;omega
 ·rintro ⟨h1,h2⟩;exact ⟨(s - 1).toNat,by omega,by omega⟩
theorem zgj {n:Nat} (hn:n<=8) {s:Int} (h:s∈setsV n):smallSet s:=by
 obtain ⟨h1,h2⟩:=zlP.1 h
 exact zhw hn ⟨by omega,h2⟩
theorem znH {n:Nat} {s:Int} (h0:1<=s) (h:s<2^n):(setsV n).drop (s - 1).toNat=s::(setsV n).drop s.toNat:=by
 rw [pow_nat] at h
 have hl:(s - 1).toNat<(setsV n).length:=by rw [zhd];omega
 rw [List.drop_eq_getElem_cons hl]
 have e:(s - 1).toNat+1=s.toNat:=by omega
 rw [e]
 congr 1
 simp only [setsV,List.getElem_map,List.getElem_range]
 omega
theorem v143 (ly:Nat) (x:Int) (h:zes x):V143 ly x:=by
 obtain ⟨h0,h8⟩:0<=x/\x<=8:=h
 have e:(1*2^(yby x):Int)=2^x.toNat:=ydy _
 obtain ⟨s1,s2⟩:=shl_ok (k:=x) h0 (by omega)
 simp only [e] at s2
 have hp:(2:Int)^x.toNat<=256:=by
  have:(2:Nat)^x.toNat<=2^8:=ydx (by decide) (by omega)
  rw [pow_nat];omega
 simp only [V143,e]
 have hval:zcL x=setsV x.toNat:=rfl
 rw [hval]
 have hpos:(1:Int)<=2^x.toNat:=yaR (by decide)
 refine ⟨fun s=>((1<=s.1/\s.1<=2^x.toNat)/\s.2.2=false)/\setsV x.toNat=s.2.1++(setsV x.toNat).drop (s.1 - 1).toNat,fun s=>(2^x.toNat - s.1).toNat,⟨⟨⟨by simp,by simpa using hpos⟩,rfl⟩,by simp⟩,?_⟩
 rintro ⟨s,l,b⟩ ⟨⟨⟨i0,i1⟩,hb⟩,he⟩
 simp only at i0 i1 hb he ⊢
 subst hb
 refine ⟨trivial,trivial,⟨s1,s2⟩,trivial,trivial,trivial,trivial,fun hd=>?_,fun hd=>⟨trivial,(fun h=>by simp at h),fun _ _=>?_⟩⟩
 ·have hd':=of_decide_eq_true hd
  rw [znH i0 hd'] at he
  rw [hd]
  have e3:(s+1 - 1).toNat=s.toNat:=by omega
  refine ⟨⟨by first | rfl | trivial,by first | rfl | trivial⟩,⟨_,he⟩,⟨trivial,fun _=>⟨by simp only [Z.in64];omega,⟨⟨⟨by omega,by omega⟩,by first | rfl | trivial⟩,?_⟩,by omega⟩,(fun h=>by cases h)⟩,trivial,(fun h=>by cases h),(fun _ h=>by cases h)⟩
  rw [e3,yaz]
  exact he
 ·have hd:=of_decide_eq_false hd
  rw [he,ydc (by rw [zhd];rw [pow_nat] at hd;omega),ydr]
theorem v153 (x:Sx.Seq Int) (h:k153.pre x):V153 x:=by
 obtain ⟨h1,h2⟩:x.1/\x.2.length<=big:=h
 refine ⟨trivial,h1,fun l s=>s.2++l=x.2,rfl,fun e r z hz=>⟨?_,?_⟩,fun z hz=>⟨trivial,?_⟩⟩
 ·have:=congrArg List.length hz
  simp only [yao,ybT] at this
  simp only [Z.roomy,big] at *
  simp
  omega
 ·show (z.2++[e])++r=x.2
  rw [<-hz,yaz];rfl
 ·have hz:z.2++[]=x.2:=hz
  rw [ydr] at hz
  exact hz
theorem put_at (k:Stock) (p:Pile) (t:Int):putV k p t=cond (t==p.1) (some ((k p.1).getD 0+p.2)) (k t):=rfl
theorem zpb (l:List Pile) (i:Int) (h0:0<=i) (h:i<(l.length:Int)):newV (l.take (i+1).toNat)=putV (newV (l.take i.toNat)) (l.getD i.toNat (0,0)):=by
 have e:l.take (i+1).toNat=l.take i.toNat++[l.getD i.toNat (0,0)]:=by
  have e:(i+1).toNat=i.toNat+1:=by omega
  have h':i.toNat<l.length:=by omega
  rw [e,ydJ h']
  simp [yda,h']
 rw [newV,e,ydK];rfl
structure StockIs (k:Stock) (n:Nat):Prop where
 key:∀ t v,k t=some v->smallSet t
 val:∀ t v,k t=some v->0<=v/\v<=topN*(n:Int)
theorem StockIs.at {k:Stock} {n:Nat} (h:StockIs k n) (t:Int):0<=(k t).getD 0/\(k t).getD 0<=topN*(n:Int):=by
 cases e:k t with
 | none=>simp only [ydL,topN];omega
 | some v=>exact h.val t v e
theorem put_is {k:Stock} {n:Nat} {p:Pile} (h:StockIs k n) (hp:smallSet p.1/\amount p.2):StockIs (putV k p) (n+1):=by
 have h3:=h.at p.1
 have h4:=hp.2
 simp only [amount,topN] at h3 h4
 refine ⟨fun t v e=>?_,fun t v e=>?_⟩
 ·rw [put_at] at e
  cases ht:(t==p.1) with
  | true=>rw [eq_of_beq ht];exact hp.1
  | false=>rw [ht] at e;exact h.key t v e
 ·rw [put_at] at e
  cases ht:(t==p.1) with
  | true =>
   rw [ht] at e
   have e:=yaA e
   simp only [topN]
   omega
  | false=>rw [ht] at e;have:=h.val t v e;simp only [topN] at this ⊢;omega
theorem new_is:∀ (l:List Pile) (k:Stock) (n:Nat),StockIs k n->(∀ p∈l,smallSet p.1/\amount p.2)->StockIs (l.foldl putV k) (n+l.length)
 | [],k,n,h,_=>h
 | p::l,k,n,h,hp=>by
  have:=new_is l (putV k p) (n+1) (put_is h (hp p yam)) fun q hq=>hp q (yal _ hq)
  rw [show n+(p::l).length=n+1+l.length from by simp;omega]
  exact this
theorem none_is:StockIs (fun _=>none) 0:=⟨(fun _ _ h=>by cases h),(fun _ _ h=>by cases h)⟩
theorem new_ok {l:List Pile} (hl:l.length<=8) (hp:∀ p∈l,smallSet p.1/\amount p.2):StockOk (newV l):=by
 have h:=new_is l _ 0 none_is hp
 refine ⟨h.key,fun t v e=>?_⟩
 have:=h.val t v e
 simp only [topN] at this
 omega
theorem v77 (x:List Pile) (h:k77.pre x):V77 x:=by
 obtain ⟨h8,hp⟩:x.length<=8/\∀ p∈x,smallSet p.1/\amount p.2:=h
 refine ⟨fun s=>(0<=s.1/\s.1<=(x.length:Int))/\s.2=newV (x.take s.1.toNat),fun s=>((x.length:Int) - s.1).toNat,⟨⟨by simp,by simp⟩,rfl⟩,?_⟩
 rintro ⟨i,k⟩ ⟨⟨i0,i1⟩,e⟩
 simp only at i0 i1 e ⊢
 refine ⟨fun hd=>?_,fun hd=>?_⟩
 ·have hd:i<(x.length:Int):=of_decide_eq_true hd
  have hg:=hp _ (zcv x (0,0) i i0 hd)
  have hi:=(new_is (x.take i.toNat) _ 0 none_is (fun p hq=>hp p (ydH hq))).at (x.getD i.toNat (0,0)).1
  have hi:0<=(k (x.getD i.toNat (0,0)).1).getD 0/\(k (x.getD i.toNat (0,0)).1).getD 0<=topN*((0+(x.take i.toNat).length:Nat):Int):=by rw [e];exact hi
  have h9:((0+(x.take i.toNat).length:Nat):Int)<=8:=by rw [ybo];omega
  have h4:=hg.2
  simp only [amount,topN] at hi h4
  refine ⟨⟨i0,hd⟩,by simp only [Z.in64];omega,by simp only [Z.in64];omega,⟨⟨by omega,by omega⟩,?_⟩,by omega⟩
  rw [zpb x i i0 hd,<-e];rfl
 ·have hd:¬ i<(x.length:Int):=of_decide_eq_false hd
  show k=newV x
  rw [e,ydG (by omega)]
def metB (t:Int) (l:List (Int × Int)):Bool:=l.any fun p=>p.1==t
abbrev ofAt (k:Stock) (s:Int) (t:Nat):Int:=cond (touchB s (t:Nat)) ((k (t:Nat)).getD 0) 0
theorem zeB (k:Stock) (s:Int):stockV k s=sumN 256 (ofAt k s):=rfl
def metS (k:Stock) (s:Int) (l:List (Int × Int)):Int:=sumN 256 fun t=>cond (metB (t:Nat) l) (ofAt k s t) 0
theorem zjy {k:Stock} {s k1 v:Int} {l:List (Int × Int)} (hk:k k1=some v) (h1:smallSet k1) (hn:metB k1 l=false):metS k s ((k1,v)::l)=metS k s l+cond (touchB s k1) v 0:=by
 obtain ⟨m,rfl⟩:=ydw h1.1
 have hm:m<256:=by have:=h1.2;omega
 have e:=zhb (n:=256) (k:=m) (f:=fun t=>cond (metB (t:Nat) (((m:Int),v)::l)) (ofAt k s t) 0) (g:=fun t=>cond (metB (t:Nat) l) (ofAt k s t) 0) (fun i _ hi=>by
  have:(((m:Nat):Int)==((i:Nat):Int))=false:=by
   rw [beq_eq_false_iff_ne];omega
  simp only [metB,yds,this,Bool.false_or])
 rw [if_pos hm] at e
 rw [metS,e,metS]
 have h2:metB (m:Int) (((m:Int),v)::l)=true:=by simp [metB]
 simp only [h2,hn,cond_true,cond_false,ofAt,hk,ydM]
 omega
theorem ofAt_bd {k:Stock} (h:StockOk k) (s:Int) (t:Nat):0<=ofAt k s t/\ofAt k s t<=1073741824:=by
 simp only [ofAt]
 cases touchB s (t:Nat) with
 | false=>simp
 | true =>
  cases e:k (t:Nat) with
  | none=>simp
  | some v=>exact h.val _ v e
theorem met_bd {k:Stock} (h:StockOk k) (s:Int) (l:List (Int × Int)):0<=metS k s l/\metS k s l<=256*1073741824:=by
 constructor
 ·exact zhy fun t _=>by cases metB (t:Nat) l<;>simp only [cond_true,cond_false]<;>first | exact (ofAt_bd h s t).1 | omega
 ·have:=sumN_le (n:=256) (f:=fun t=>cond (metB (t:Nat) l) (ofAt k s t) 0) (g:=fun _=>1073741824) fun t _=>by
   cases metB (t:Nat) l<;>simp only [cond_true,cond_false]<;>first | exact (ofAt_bd h s t).2 | omega
  have e:sumN 256 (fun _=>(1073741824:Int))=256*1073741824:=by decide
  rw [e] at this
  exact this
def unmet (l:List (Int × Int)):Nat:=(yaf 256).countP fun t=>!metB (t:Nat) l
theorem ziu {k1 v:Int} {l:List (Int × Int)} (h1:smallSet k1) (hn:metB k1 l=false):unmet ((k1,v)::l)<unmet l:=by
 obtain ⟨m,rfl⟩:=ydw h1.1
 have hm:m<256:=by have:=h1.2;omega
 refine zl (a:=m) (ycU.2 hm) (fun b _ hb=>?_) (by rw [hn];rfl) (by simp [metB])
 simp only [metB,yds,Bool.not_or,yac] at hb
 exact hb.2
theorem not_met {t:Int} {l:List (Int × Int)} (h:∀ p,ydC p l->p.1=t->False):metB t l=false:=by
 rw [metB,ydN]
 intro p hp he
 exact h p hp (eq_of_beq he)
theorem v79 (x:Stock × Int) (h:k79.pre x):V79 x:=by
 obtain ⟨hk,hs⟩:StockOk x.1/\smallSet x.2:=h
 refine ⟨fun s=>s.2.1=x.1/\s.1=metS x.1 x.2 s.2.2,fun s=>unmet s.2.2,⟨rfl,?_⟩,?_⟩
 ·show 0=metS x.1 x.2 []
  rw [metS,<-zgg 256];rfl
 rintro ⟨n,k,l⟩ ⟨e1,e2⟩
 simp only at e1 e2
 subst e1
 refine ⟨fun k1 v2 hv hn=>⟨trivial,fun _=>⟨⟨by omega,by simp⟩,?_,fun ht=>⟨?_,⟨rfl,?_⟩,?_⟩,fun ht=>⟨⟨rfl,?_⟩,?_⟩⟩,(fun h=>by cases h)⟩,fun hall=>⟨trivial,(fun h=>by cases h),fun _=>?_⟩⟩
 ·exact ⟨hs.1,(hk.key _ _ hv).1⟩
 ·have e:=zjy (s:=x.2) hv (hk.key _ _ hv) (not_met hn)
  have hb:=met_bd hk x.2 ((k1,v2)::l)
  have ht:touchB x.2 k1=true:=ht
  rw [ht,<-e2] at e
  simp only [cond_true] at e
  show Z.in64 (n+v2)
  simp only [Z.in64];omega
 ·have e:=zjy (s:=x.2) hv (hk.key _ _ hv) (not_met hn)
  have ht:touchB x.2 k1=true:=ht
  rw [ht,<-e2] at e
  exact e.symm
 ·exact ziu (hk.key _ _ hv) (not_met hn)
 ·have e:=zjy (s:=x.2) hv (hk.key _ _ hv) (not_met hn)
  have ht:touchB x.2 k1=false:=ht
  rw [ht,<-e2] at e
  simp only [cond_false,ydI] at e
  exact e.symm
 ·exact ziu (hk.key _ _ hv) (not_met hn)
 ·show n=stockV x.1 x.2
  rw [e2,zeB,metS]
  refine ziw fun t _=>?_
  cases hm:metB (t:Nat) l with
  | true=>rfl
  | false =>
   cases e:x.1 (t:Nat) with
   | none=>simp only [ofAt,e,ydL,cond_false];cases touchB x.2 (t:Nat)<;>rfl
   | some v =>
    obtain ⟨p,hp,hp1⟩:=hall (t:Nat) v e
    exfalso
    rw [metB,ydN] at hm
    exact hm p hp (by rw [hp1];exact beq_self_eq_true _)
theorem znC {k:Stock} {p:Pile} (hp:smallSet p.1) (s:Int):stockV (putV k p) s=stockV k s+cond (touchB s p.1) p.2 0:=by
 obtain ⟨m,hm0⟩:=ydw hp.1
 have hm:m<256:=by have:=hp.2;omega
 have e:=zhb (n:=256) (k:=m) (f:=ofAt (putV k p) s) (g:=ofAt k s) (fun i _ hi=>by
  have:(((i:Nat):Int)==p.1)=false:=by
   rw [beq_eq_false_iff_ne];omega
  simp only [ofAt,put_at,this,cond_false])
 rw [if_pos hm] at e
 rw [zeB,e,<-zeB]
 have h2:(((m:Nat):Int)==p.1)=true:=by rw [hm0];exact beq_self_eq_true _
 simp only [ofAt,put_at,h2,cond_true,ydM]
 have h3:((m:Nat):Int)=p.1:=hm0.symm
 rw [h3]
 cases touchB s p.1<;>simp only [cond_true,cond_false]<;>omega
theorem zke (s:Int):∀ (l:List Pile) (k:Stock),(∀ p∈l,smallSet p.1)->stockV (l.foldl putV k) s=stockV k s+haveV l s
 | [],k,_=>by simp [haveV]
 | p::l,k,h=>by
  rw [ybD,zke s l _ fun q hq=>h q (yal _ hq),znC (h p yam),haveV]
  omega
theorem zix {l:List Pile} (h:∀ p∈l,smallSet p.1) (s:Int):stockV (newV l) s=haveV l s:=by
 rw [newV,zke s l _ h,show stockV (fun _=>none) s=0 from ?_,Int.zero_add]
 rw [zeB,<-zgg 256]
 refine ziw fun t _=>?_
 simp only [ofAt,ydL]
 cases touchB s (t:Nat)<;>rfl
end Go.Tt
/-
 Box: what lacks most,how many boxes.
-/
namespace Go.Tt
open Go Go.Sx
structure WorstIs (d:Int->Int) (l:List Int) (b:Int × Int):Prop where
 nn:0<=b.2
 atw:b.2=0\/(b.1∈l/\b.2=d b.1)
 le:∀ s∈l,d s<=b.2
theorem zim (d:Int->Int):∀ (l p:List Int) (b:Int × Int),WorstIs d p b->WorstIs d (p++l) (l.foldl (fun b s=>cond (decide (b.2<d s)) (s,d s) b) b)
 | [],p,b,h=>by rw [ydr];exact h
 | a::l,p,b,h=>by
  have:=zim d l (p++[a]) (cond (decide (b.2<d a)) (a,d a) b) (by
   cases hd:decide (b.2<d a) with
   | true =>
    have hd:=of_decide_eq_true hd
    have:=h.nn
    refine ⟨by show 0<=d a;omega,.inr ⟨yas.2 (.inr yam),rfl⟩,fun s hs=>?_⟩
    show d s<=d a
    rcases yas.1 hs with hs | hs
    ·have:=h.le s hs;omega
    ·rw [yat.1 hs];exact ydB _
   | false =>
    have hd:=of_decide_eq_false hd
    refine ⟨h.nn,h.atw.imp_right fun ⟨h1,h2⟩=>⟨yas.2 (.inl h1),h2⟩,fun s hs=>?_⟩
    show d s<=b.2
    rcases yas.1 hs with hs | hs
    ·exact h.le s hs
    ·rw [yat.1 hs];omega)
  rw [yaz] at this
  exact this
theorem zoI (d:Int->Int) (l:List Int):WorstIs d l (worstV d l) :=
 zim d l [] (0,0) ⟨ydB _,.inl rfl,(fun _ h=>by cases h)⟩
theorem zhr {d e:Int->Int}:∀ (l:List Int) (b:Int × Int),(∀ s∈l,d s=e s)->l.foldl (fun b s=>cond (decide (b.2<d s)) (s,d s) b) b=l.foldl (fun b s=>cond (decide (b.2<e s)) (s,e s) b) b
 | [],_,_=>rfl
 | a::l,b,h=>by
  rw [ybD,ybD,h a yam,zhr l _ fun s hs=>h s (yal _ hs)]
theorem zmG (d:Int->Int) (l:List Int) (i:Int) (h0:0<=i) (h:i<(l.length:Int)):worstV d (l.take (i+1).toNat)=cond (decide ((worstV d (l.take i.toNat)).2<d (l.getD i.toNat 0))) (l.getD i.toNat 0,d (l.getD i.toNat 0)) (worstV d (l.take i.toNat)):=by
 rw [worstV,zeA l i h0 h,ydK];rfl
theorem zmL {k:Stock} (h:StockOk k) (s:Int):0<=stockV k s/\stockV k s<=256*1073741824:=by
 constructor
 ·rw [zeB];exact zhy fun t _=>(ofAt_bd h s t).1
 ·have:=sumN_le (n:=256) (f:=ofAt k s) (g:=fun _=>1073741824) fun t _=>(ofAt_bd h s t).2
  have e:sumN 256 (fun _=>(1073741824:Int))=256*1073741824:=by decide
  rw [e] at this
  exact this
theorem v152 (x:Stock × (List Int) × List Int) (h:k152.pre x):V152 x:=by
 obtain ⟨hk,⟨h8,hn⟩,hl,hs⟩:StockOk x.1/\(x.2.1.length<=8/\∀ n∈x.2.1,0<=n/\n<=most40)/\x.2.2.length<=big/\∀ s∈x.2.2,smallSet s:=h
 obtain ⟨d,hd⟩:∃ d:Int->Int,d=fun s=>sumV s x.2.1 - stockV x.1 s:=⟨_,rfl⟩
 have hde:∀ s,zbq (s,x.2.1) - zb (x.1,s)=d s:=fun s=>by rw [hd];rfl
 have hval:zbO x=worstV d x.2.2:=by rw [hd];rfl
 simp only [V152,hde,hval]
 refine ⟨fun s=>(0<=s.2.2/\s.2.2<=(x.2.2.length:Int))/\(s.1,s.2.1)=worstV d (x.2.2.take s.2.2.toNat),fun s=>((x.2.2.length:Int) - s.2.2).toNat,⟨⟨by simp,by simp⟩,rfl⟩,?_⟩
 rintro ⟨b,n,i⟩ ⟨⟨i0,i1⟩,e⟩
 simp only at i0 i1 e ⊢
 refine ⟨fun hd=>?_,fun hd=>?_⟩
 ·have hd:i<(x.2.2.length:Int):=of_decide_eq_true hd
  have hm:=hs _ (zcv x.2.2 0 i i0 hd)
  have hst:=zmG d x.2.2 i i0 hd
  rw [<-e] at hst
  have b1:=sum_b40 h8 hn (x.2.2.getD i.toNat 0)
  have b2:=zmL hk (x.2.2.getD i.toNat 0)
  refine ⟨⟨i0,hd⟩,⟨hm.1,h8,hn⟩,⟨hk,hm⟩,?_,fun hc=>⟨?_,⟨⟨by omega,by omega⟩,?_⟩,by omega⟩,fun hc=>⟨?_,⟨⟨by omega,by omega⟩,?_⟩,by omega⟩⟩
  ·rw [<-hde]
   show Z.in64 (sumV _ _ - stockV _ _)
   simp only [Z.in64,most40] at *;omega
  ·simp only [Z.in64,big] at *;omega
  ·rw [hst];simp only [hc,cond_true]
  ·simp only [Z.in64,big] at *;omega
  ·rw [hst];simp only [hc,cond_false]
 ·have hd:¬ i<(x.2.2.length:Int):=of_decide_eq_false hd
  rw [e,ydG (by omega)]
theorem v95 (x:(List Int) × List Pile) (h:k95.pre x):V95 x:=by
 have h:BoxOk x.1 x.2:=h
 have hp:∀ p∈x.2,smallSet p.1:=fun p hp=>(h.pile p hp).1
 refine ⟨⟨h.l8,h.pile⟩,trivial,⟨⟨by show (0:Int)<=(x.1.length:Int);omega,by show (x.1.length:Int)<=8;have:=h.n8;omega⟩,?_⟩,⟨new_ok h.l8 h.pile,⟨h.n8,h.need⟩,?_,fun s hs=>zgj h.n8 hs⟩,?_⟩
 ·show (setsV x.1.length).length<=big
  rw [zhd]
  have:(2:Nat)^x.1.length<=2^8:=ydx (by decide) h.n8
  simp only [big];omega
 ·show (setsV x.1.length).length<=big
  rw [zhd]
  have:(2:Nat)^x.1.length<=2^8:=ydx (by decide) h.n8
  simp only [big];omega
 ·show worstV (fun s=>sumV s x.1 - stockV (newV x.2) s) (setsV x.1.length)=worstV (lacksV x.1 x.2) (setsV x.1.length)
  exact zhr _ _ fun s _=>by rw [zix hp,lacksV]
theorem v75 (x:(List Int) × List Pile) (h:k75.pre x):V75 x:=⟨h,rfl⟩
theorem zpj (need:List Int) (l:List Pile):WorstIs (lacksV need l) (setsV need.length) (lackB need l):=zoI _ _
structure BoxIs (need:List Int) (l:List Pile):Prop where
 n1:1<=need.length
 n8:need.length<=8
 l8:l.length<=8
 nd:∀ n∈need,0<=n/\n<=48
 pile:∀ p∈l,(0<=p.1/\p.1<=allV need.length)/\amount p.2
 some:∃ n∈need,0<n
theorem max_mem:∀ (l:List Int) (a:Int),l.foldl max a=a\/l.foldl max a∈l
 | [],a=>.inl rfl
 | b::l,a=>by
  rw [ybD]
  rcases max_mem l (max a b) with h | h
  ·rw [h]
   rcases Int.le_total a b with hl | hl
   ·right;rw [Int.max_eq_right hl];exact yam
   ·left;exact Int.max_eq_left hl
  ·exact .inr (yal _ h)
theorem max_ge:∀ (l:List Int) (a:Int),a<=l.foldl max a/\∀ b∈l,b<=l.foldl max a
 | [],a=>⟨ydB _,(fun _ h=>by cases h)⟩
 | c::l,a=>by
  have:=max_ge l (max a c)
  rw [ybD]
  refine ⟨by omega,fun b hb=>?_⟩
  rcases yaq.1 hb with rfl | hb
  ·omega
  ·exact this.2 b hb
theorem zpg {l:List Int}:0<maxV l↔∃ n∈l,0<n:=by
 cases l with
 | nil=>simp [maxV]
 | cons a l =>
  rw [maxV]
  constructor
  ·intro h
   rcases max_mem l a with e | e
   ·exact ⟨a,yam,by omega⟩
   ·exact ⟨_,yal _ e,h⟩
  ·rintro ⟨n,hn,h⟩
   have:=max_ge l a
   rcases yaq.1 hn with rfl | hn
   ·omega
   ·have:=this.2 n hn;omega
theorem box_iff {need:List Int} {l:List Pile}:boxB need l=true↔BoxIs need l:=by
 simp only [boxB,yac,decide_eq_true_eq,List.all_eq_true,inB_iff,needB,pileB,zpg]
 constructor
 ·rintro ⟨⟨⟨⟨⟨h1,h2⟩,h3⟩,h4⟩,h5⟩,h6⟩
  exact ⟨by omega,by omega,by omega,h4,fun p hp=>h5 p hp,h6⟩
 ·intro h
  exact ⟨⟨⟨⟨⟨by have:=h.n1;omega,by have:=h.n8;omega⟩,by have:=h.l8;omega⟩,h.nd⟩,fun p hp=>h.pile p hp⟩,h.some⟩
theorem zoF {n:Nat} (hn:n<=8) {s:Int} (h:0<=s/\s<=allV n):smallSet s:=by
 refine zhw hn ⟨h.1,?_⟩
 have:=h.2
 simp only [allV] at this
 omega
theorem BoxIs.small {need:List Int} {l:List Pile} (h:BoxIs need l):∀ p∈l,smallSet p.1/\amount p.2:=fun p hp=>⟨zoF h.n8 (h.pile p hp).1,(h.pile p hp).2⟩
theorem zhx (l:List Int) (n:Int):(timesV l n).length=l.length:=by simp [timesV]
theorem zlK {need:List Int} {n:Int} (h:∀ a∈need,0<=a/\a<=48) (h0:0<=n) (h1:n<=8388609):∀ a∈timesV need n,0<=a/\a<=48*8388609:=by
 intro a ha
 obtain ⟨b,hb,rfl⟩:=ycp.1 ha
 exact ⟨ydD (h b hb).1 h0,ydE (h b hb).2 h1 h0 (by decide)⟩
theorem BoxIs.ok {need:List Int} {l:List Pile} (h:BoxIs need l) {n:Int} (h0:0<=n) (h1:n<=8388609):BoxOk (timesV need n) l :=
 ⟨by rw [zhx];exact h.n8,h.l8,fun a ha=>by have:=zlK h.nd h0 h1 a ha;simp only [most40];omega,h.small⟩
theorem v74 (x:Int × (List Int) × List Pile) (h:k74.pre x):V74 x:=by
 obtain ⟨hb,h0,h1⟩:boxB x.2.1 x.2.2=true/\0<=x.1/\x.1<=8388608:=h
 have hb:=box_iff.1 hb
 exact ⟨⟨hb.n8,hb.nd,h0,by omega⟩,hb.ok h0 (by omega),rfl⟩
theorem zhA {f:Int->Bool}:∀ (n:Nat) (i j:Int),i<=j->j - i<=n->(srch f n i j=i\/f (srch f n i j - 1)=false)/\(srch f n i j=j\/f (srch f n i j)=true)
 | 0,i,j,h,hn=>⟨.inl rfl,.inl (by show i=j;omega)⟩
 | n+1,i,j,h,hn=>by
  rw [srch]
  cases hd:decide (i<j) with
  | false=>have hd:=of_decide_eq_false hd;exact ⟨.inl rfl,.inl (by show i=j;omega)⟩
  | true =>
   have hl:=of_decide_eq_true hd
   have e:ydv (i+j) 2=(i+j) / 2:=yaS _ (by decide)
   rw [cond_true,e]
   cases hf:f ((i+j) / 2) with
   | true =>
    rw [cond_true]
    obtain ⟨h1,h2⟩:=zhA (f:=f) n i ((i+j) / 2) (by omega) (by omega)
    refine ⟨h1,?_⟩
    rcases h2 with h2 | h2
    ·right;rw [h2];exact hf
    ·exact .inr h2
   | false =>
    rw [cond_false]
    obtain ⟨h1,h2⟩:=zhA (f:=f) n ((i+j) / 2+1) j (by omega) (by omega)
    refine ⟨?_,h2⟩
    rcases h1 with h1 | h1
    ·right;rw [h1,Int.add_sub_cancel];exact hf
    ·exact .inr h1
theorem ziQ {n:Int} (h:0<=n) (p:Int->Bool):(0<=greatV n p/\greatV n p<=n)/\(greatV n p=0\/p (greatV n p)=true)/\(greatV n p=n\/p (greatV n p+1)=false):=by
 have h1:=srch_bd (f:=fun k=>!p (k+1)) n.toNat 0 n h
 obtain ⟨h2,h3⟩:=zhA (f:=fun k=>!p (k+1)) n.toNat 0 n h (by omega)
 refine ⟨h1,h2.imp_right fun h=>?_,h3.imp_right fun h=>?_⟩
 ·have h:=not_iff.2.1 h
  rw [Int.sub_add_cancel] at h
  exact h
 ·exact not_iff.1.1 h
end Go.Tt
/-
 Box: Most,Lack,and what Fill asks.
-/
namespace Go.Tt
open Go Go.Sx
theorem v83 (x:(List Int) × (List Pile) × Int) (_:k83.pre x):V83 x:=by
 refine ⟨trivial,fun h=>?_,fun h=>⟨trivial,fun h2=>?_,fun h2=>?_⟩⟩
 ·have h:boxB x.1 x.2.1=false:=not_iff.1.1 h
  show (1:Int)=zak x
  rw [zak,h];rfl
 ·have h:boxB x.1 x.2.1=true:=not_iff.2.1 h
  have h2:inB x.2.2 0 topN=false:=not_iff.1.1 h2
  show (2:Int)=zak x
  rw [zak,h,h2];rfl
 ·have h:boxB x.1 x.2.1=true:=not_iff.2.1 h
  have h2:inB x.2.2 0 topN=true:=not_iff.2.1 h2
  show (0:Int)=zak x
  rw [zak,h,h2];rfl
theorem zlD (x:(List Int) × (List Pile) × Int):(zak x=0/\BoxIs x.1 x.2.1/\0<=x.2.2/\x.2.2<=topN)\/(zak x=1/\boxB x.1 x.2.1=false)\/(zak x=2/\boxB x.1 x.2.1=true/\inB x.2.2 0 topN=false):=by
 cases h:boxB x.1 x.2.1 with
 | false=>right;left;exact ⟨by rw [zak,h];rfl,rfl⟩
 | true =>
  cases h2:inB x.2.2 0 topN with
  | false=>right;right;exact ⟨by rw [zak,h,h2];rfl,rfl,rfl⟩
  | true=>left;exact ⟨by rw [zak,h,h2];rfl,box_iff.1 h,inB_iff.1 h2⟩
theorem zmz {x:(List Int) × (List Pile) × Int} (h:zak x=0):BoxIs x.1 x.2.1/\0<=x.2.2/\x.2.2<=topN:=by
 rcases zlD x with ⟨_,h1⟩ | ⟨h1,_⟩ | ⟨h1,_⟩
 ·exact h1
 ·rw [h] at h1;cases h1
 ·rw [h] at h1;cases h1
theorem v30 (x:(List Int) × (List Pile) × Int) (_:k30.pre x):V30 x:=by
 refine ⟨trivial,fun h=>?_,fun h=>?_⟩
 ·have h:(zak x==0)=false:=not_iff.1.1 h
  show (0,0,zak x)=zbF x
  rw [zbF,h];rfl
 ·have h:(zak x==0)=true:=not_iff.2.1 h
  obtain ⟨hb,h0,h1⟩:=zmz (eq_of_beq h)
  have h1':x.2.2<=8388609:=by simp only [topN] at h1;omega
  refine ⟨⟨hb.n8,hb.nd,h0,h1'⟩,hb.ok h0 h1',fun h2=>?_,fun h2=>?_⟩
  ·have h2:((lackB (timesV x.1 x.2.2) x.2.1).2==0)=true:=h2
   show (0,0,4)=zbF x
   rw [zbF,h,h2];rfl
  ·have h2:((lackB (timesV x.1 x.2.2) x.2.1).2==0)=false:=h2
   show _=zbF x
   rw [zbF,h,h2];rfl
theorem zmU (d:Int->Int) (b s:Int) (r:List Int):proofV d b (s::r)=cond (decide (0<d s)) (b,s,0) (proofV d b r):=rfl
theorem BoxIs.most_p {need:List Int} {l:List Pile} (h:BoxIs need l):zbn (8388608,mostF need l) :=
 ⟨⟨by show (0:Int)<=8388608;decide,by show (8388608:Int)<=most40;decide⟩,fun i h1 h2=>⟨box_iff.2 h,by show (0:Int)<=i;omega,h2⟩⟩
theorem most_bd (x:(List Int) × List Pile):0<=mostB x/\mostB x<=8388608:=(ziQ (n:=8388608) (by decide) _).1
theorem v22 (x:(List Int) × List Pile) (_:k22.pre x):V22 x:=by
 refine ⟨trivial,fun h=>?_,fun h=>?_⟩
 ·have h:boxB x.1 x.2=false:=not_iff.1.1 h
  show (0,0,1)=zca x
  rw [zca,h];rfl
 ·have hv:boxB x.1 x.2=true:=not_iff.2.1 h
  have hb:=box_iff.1 hv
  have hm:=most_bd x
  have hval:zca x=proofV (lacksV (timesV x.1 (mostB x+1)) x.2) (mostB x) (setsV x.1.length):=by rw [zca,hv];rfl
  have hok:=hb.ok (n:=mostB x+1) (by omega) (by omega)
  generalize hB:mostB x=b at hm hval hok
  refine ⟨hb.most_p,⟨hb.l8,hb.small⟩,by simp only [hB,Z.in64];omega,⟨hb.n8,hb.nd,by show 0<=b+1;omega,by show b+1<=8388609;omega⟩,trivial,⟨by show (0:Int)<=(x.1.length:Int);omega,by show (x.1.length:Int)<=8;have:=hb.n8;omega⟩,?_⟩
  simp only [hB]
  refine ⟨fun r s=>s=(b,0,0)/\(∀ e∈r,smallSet e)/\zca x=proofV (lacksV (timesV x.1 (b+1)) x.2) b r,⟨rfl,fun e he=>zgj hb.n8 he,hval⟩,?_,?_⟩
  ·rintro e r s ⟨rfl,hs,he⟩
   have hse:=hs e yam
   have hst:zb (zaJ x.2,e)=haveV x.2 e:=zix (fun p hp=>(hb.small p hp).1) e
   have hsm:zbq (e,zaF (x.1,b+1))=sumV e (timesV x.1 (b+1)):=rfl
   rw [zmU] at he
   refine ⟨⟨new_ok hb.l8 hb.small,hse⟩,⟨hse.1,hok.n8,hok.need⟩,fun h1=>⟨by first | rfl | trivial,by first | rfl | trivial,trivial,rfl,fun e' h'=>hs e' (yal _ h'),?_⟩,fun h1=>⟨by first | rfl | trivial,by first | rfl | trivial,trivial,?_⟩⟩
   ·have h1:=of_decide_eq_true h1
    rw [hst,hsm] at h1
    rw [he,show decide (0<lacksV (timesV x.1 (b+1)) x.2 e)=false from decide_eq_false (by rw [lacksV];omega)];rfl
   ·have h1:=of_decide_eq_false h1
    rw [hst,hsm] at h1
    show (b,e,0)=zca x
    rw [he,show decide (0<lacksV (timesV x.1 (b+1)) x.2 e)=true from decide_eq_true (by rw [lacksV];omega)];rfl
  ·rintro s ⟨rfl,_,he⟩
   exact he.symm
theorem znA (s n:Int) (need:List Int):sumV s (timesV need n)=sumV s need*n:=by
 have key:∀ (l:List Int) (k:Nat),selS (fun k=>hasB s (k:Nat)) (l.map fun x=>x*n) k=selS (fun k=>hasB s (k:Nat)) l k*n:=by
  intro l
  induction l with
  | nil=>intro k;simp [selS]
  | cons a l ih =>
   intro k
   simp only [List.map_cons,selS,ih,Int.add_mul]
   cases hasB s (k:Nat)<;>simp
 exact key need 0
theorem have_bd {l:List Pile} (hp:∀ p∈l,amount p.2) (s:Int):0<=haveV l s/\haveV l s<=topN*(l.length:Int):=by
 induction l with
 | nil=>simp [haveV]
 | cons p l ih =>
  have:=ih fun q hq=>hp q (yal _ hq)
  have h:=hp p yam
  simp only [amount,topN] at h this ⊢
  simp only [haveV,ybT]
  cases touchB s p.1<;>simp only [cond_true,cond_false]<;>omega
theorem all_in {n:Nat} (h:1<=n):allV n∈setsV n:=by
 refine zlP.2 ⟨?_,by simp only [allV];omega⟩
 have:(2:Nat)^1<=2^n:=ydx (by decide) h
 simp only [allV]
 rw [pow_nat];omega
end Go.Tt
/-
 Box: Fill.
-/
namespace Go.Tt
open Go Go.Sx
theorem mem_set {α:Type} {P:α->Prop} {l:List α} (h:∀ a∈l,P a) (i:Nat) {b:α} (hb:P b):∀ a∈l.set i b,P a:=by
 intro a ha
 rcases List.mem_or_eq_of_mem_set ha with h1 | h1
 ·exact h a h1
 ·rw [h1];exact hb
theorem zhS {α:Type} (l:List α) (d b:α) (i:Nat) (h:i<l.length):(l.set i b).getD i d=b:=by
 simp [yda,h]
theorem v86 (x:Int × (List Int) × Int × List Pile) (h:k86.pre x):V86 x:=by
 obtain ⟨hb,⟨k0,k1⟩,hr,n0,n1⟩:BoxOk x.2.1 x.2.2.2/\(0<=x.2.2.1/\x.2.2.1<(x.2.1.length:Int))/\1<=x.2.2.2.length/\0<=x.1/\x.1<=(x.2.2.2.getD 0 noP).2:=h
 have hm:=hb.pile _ (zao x.2.2.2 noP 0 (by omega))
 have ha:=hm.2
 simp only [amount,topN] at ha
 have hz:(0:Int)<((zab x.2.2.2).length:Int):=by show (0:Int)<(x.2.2.2.length:Int);omega
 refine ⟨by show x.2.1.length<=1000;have:=hb.n8;omega,⟨k0,k1⟩,by show x.2.2.2.length<=big;have:=hb.l8;simp only [big];omega,⟨ydB _,hz⟩,?_,⟨ydB _,hz⟩,?_,rfl⟩
 ·show Z.in64 ((x.2.2.2.getD 0 noP).2 - x.1)
  simp only [Z.in64];omega
 ·show BoxOk (x.2.1.set x.2.2.1.toNat 0) (x.2.2.2.set 0 ((x.2.2.2.getD 0 noP).1,(x.2.2.2.getD 0 noP).2 - x.1))
  exact ⟨by rw [ybV];exact hb.n8,by rw [ybV];exact hb.l8,mem_set hb.need _ ⟨by decide,by decide⟩,mem_set hb.pile _ ⟨hm.1,by simp only [amount,topN];omega⟩⟩
theorem off_has {s k:Int} {j:Nat} (h:hasB (offS s k) (j:Nat)=true):hasB s (j:Nat)=true:=by
 simp only [hasB,offS,ydt,Nat.testBit_xor,Nat.testBit_and] at h ⊢
 cases hs:s.toNat.testBit j with
 | true=>rfl
 | false=>rw [hs] at h;simp at h
theorem zkC {s k:Int} (h:smallSet s):smallSet (offS s k):=by
 have h1:s.toNat<2^8:=by have:=h.1;have:=h.2;omega
 have h2:=Nat.xor_lt_two_pow h1 (Nat.lt_of_le_of_lt (Nat.and_le_left (n:=s.toNat) (m:=(1*2^k.toNat:Int).toNat)) h1)
 refine ⟨ydO _,?_⟩
 simp only [offS]
 omega
structure FillOk (n:Nat) (own:Int) (s:FillS):Prop where
 d8:s.1.length=8
 dr:∀ r∈s.1,r.length=8
 ln:s.2.1.length=n
 lb:∀ a∈s.2.1,0<=a/\a<=most40
 r1:1<=s.2.2.length
 r8:s.2.2.length<=8
 rp:∀ p∈s.2.2,smallSet p.1/\amount p.2
 hs:∀ k:Nat,hasB (s.2.2.getD 0 noP).1 (k:Nat)=true->hasB own (k:Nat)=true
def SoldOk (l:List Pile) (g:List (List Int)):Prop:=∀ j k:Nat,getG g (j:Nat) (k:Nat)≠0->hasB (l.getD j noP).1 (k:Nat)=true
section
variable {n:Nat} {own:Int} {s:FillS}
theorem FillOk.off (h:FillOk n own s) (k:Int):(offP' k s.2.2).length=s.2.2.length/\(∀ p∈offP' k s.2.2,smallSet p.1/\amount p.2)/\(offP' k s.2.2).getD 0 noP=(offS (s.2.2.getD 0 noP).1 k,(s.2.2.getD 0 noP).2):=by
 have hm:=h.rp _ (zao s.2.2 noP 0 (by have:=h.r1;omega))
 refine ⟨ybV ..,mem_set h.rp _ ⟨zkC hm.1,hm.2⟩,?_⟩
 exact zhS s.2.2 noP _ 0 (by have:=h.r1;omega)
theorem FillOk.num (h:FillOk n own s) (hn:n<=8) {k:Nat} (hk:k<n):zbn (min ((offP' (k:Nat) s.2.2).getD 0 noP).2 (s.2.1.getD k 0),ownF s.2.1 (k:Nat) (offP' (k:Nat) s.2.2))/\0<=numF s.2.1 (k:Nat) (offP' (k:Nat) s.2.2)/\numF s.2.1 (k:Nat) (offP' (k:Nat) s.2.2)<=(s.2.2.getD 0 noP).2/\numF s.2.1 (k:Nat) (offP' (k:Nat) s.2.2)<=s.2.1.getD k 0:=by
 obtain ⟨h1,h2,h3⟩:=h.off (k:Nat)
 have hm:=(h.rp _ (zao s.2.2 noP 0 (by have:=h.r1;omega))).2
 simp only [amount,topN] at hm
 have hl:=h.lb _ (zao s.2.1 0 k (by rw [h.ln];exact hk))
 have h32:((offP' (k:Nat) s.2.2).getD 0 noP).2=(s.2.2.getD 0 noP).2:=by rw [h3]
 have hmin:0<=min ((offP' (k:Nat) s.2.2).getD 0 noP).2 (s.2.1.getD k 0):=by rw [h32];omega
 have hg:=(ziQ (n:=min ((offP' (k:Nat) s.2.2).getD 0 noP).2 (s.2.1.getD k 0)) hmin (ownF s.2.1 (k:Nat) (offP' (k:Nat) s.2.2)).val).1
 have e:numF s.2.1 (k:Nat) (offP' (k:Nat) s.2.2)=greatV (min ((offP' (k:Nat) s.2.2).getD 0 noP).2 (s.2.1.getD k 0)) (ownF s.2.1 (k:Nat) (offP' (k:Nat) s.2.2)).val:=rfl
 rw [<-e] at hg
 refine ⟨⟨⟨hmin,?_⟩,fun i i1 i2=>⟨⟨by rw [h.ln];exact hn,by rw [h1];exact h.r8,h.lb,h2⟩,⟨by show (0:Int)<=((k:Nat):Int);omega,by show ((k:Nat):Int)<(s.2.1.length:Int);rw [h.ln];omega⟩,by show 1<=(offP' (k:Nat) s.2.2).length;rw [h1];exact h.r1,by show (0:Int)<=i;omega,?_⟩⟩,hg.1,?_,?_⟩
 ·show min ((offP' (k:Nat) s.2.2).getD 0 noP).2 (s.2.1.getD k 0)<=most40
  rw [h32];simp only [most40] at *;omega
 ·have i2:i<=min ((offP' (k:Nat) s.2.2).getD 0 noP).2 (s.2.1.getD k 0):=i2
  show i<=((offP' (k:Nat) s.2.2).getD 0 noP).2
  omega
 ·rw [h32] at hg;omega
 ·rw [h32] at hg;omega
theorem FillOk.step (h:FillOk n own s) (hn:n<=8) {i k:Nat} (hi:i<8) (hk:k<n):FillOk n own (fillStep (i:Nat) (k:Nat) s):=by
 unfold fillStep
 cases hh:hasB (s.2.2.getD (yby 0) noP).1 (k:Nat) with
 | false=>exact h
 | true =>
  obtain ⟨h1,h2,h3⟩:=h.off (k:Nat)
  obtain ⟨_,g0,g1,g2⟩:=h.num hn hk
  have hl:=h.lb _ (zao s.2.1 0 k (by rw [h.ln];exact hk))
  have hm:=(h.rp _ (zao s.2.2 noP 0 (by have:=h.r1;omega)))
  have hm2:=hm.2
  simp only [amount,topN] at hm2
  simp only [cond_true,fillTo]
  generalize hN:numF s.2.1 (k:Nat) (offP' (k:Nat) s.2.2)=N at g0 g1 g2
  obtain ⟨e1,e2⟩:=zeD h.d8 h.dr hi (k:=k) N
  refine ⟨e1,e2,?_,?_,?_,?_,?_,?_⟩
  ·show (s.2.1.set _ _).length=n
   rw [ybV];exact h.ln
  ·refine mem_set h.lb _ ?_
   show 0<=s.2.1.getD k 0 - N/\s.2.1.getD k 0 - N<=most40
   omega
  ·show 1<=((offP' (k:Nat) s.2.2).set _ _).length
   rw [ybV,h1];exact h.r1
  ·show ((offP' (k:Nat) s.2.2).set _ _).length<=8
   rw [ybV,h1];exact h.r8
  ·refine mem_set h2 _ ?_
   show smallSet ((offP' (k:Nat) s.2.2).getD 0 noP).1/\amount (((offP' (k:Nat) s.2.2).getD 0 noP).2 - N)
   rw [h3]
   refine ⟨zkC hm.1,?_⟩
   simp only [amount,topN];omega
  ·intro j hj
   have e:(takeP N (offP' (k:Nat) s.2.2)).getD 0 noP=(((offP' (k:Nat) s.2.2).getD 0 noP).1,((offP' (k:Nat) s.2.2).getD 0 noP).2 - N):=zhS _ noP _ 0 (by rw [h1];have:=h.r1;omega)
   have hj:hasB ((takeP N (offP' (k:Nat) s.2.2)).getD 0 noP).1 (j:Nat)=true:=hj
   rw [e,h3] at hj
   exact h.hs j (off_has hj)
theorem FillOk.sold {l:List Pile} (h:FillOk n own s) (hn:n<=8) {i k:Nat} (hi:i<8) (hk:k<n) (ho:own=(l.getD i noP).1) (hS:SoldOk l s.1):SoldOk l (fillStep (i:Nat) (k:Nat) s).1:=by
 unfold fillStep
 cases hh:hasB (s.2.2.getD (yby 0) noP).1 (k:Nat) with
 | false=>exact hS
 | true =>
  intro j m hp
  have hp:getG (setG s.1 (i:Nat) (k:Nat) (numF s.2.1 (k:Nat) (offP' (k:Nat) s.2.2))) (j:Nat) (m:Nat)≠0:=hp
  rw [zej h.d8 h.dr hi (by omega)] at hp
  by_cases e:j=i/\m=k
  ·obtain ⟨rfl,rfl⟩:=e
   rw [<-ho]
   exact h.hs m hh
  ·rw [if_neg e] at hp
   exact hS j m hp
theorem zlW (i:Int) (k:Nat) (s:FillS):fillRow i (k+1) s=fillStep i (k:Nat) (fillRow i k s):=by
 rw [fillRow,ydP,ydK];rfl
theorem FillOk.row {l:List Pile} (h:FillOk n own s) (hn:n<=8) {i:Nat} (hi:i<8) (ho:own=(l.getD i noP).1) (hS:SoldOk l s.1):∀ k,k<=n->FillOk n own (fillRow (i:Nat) k s)/\SoldOk l (fillRow (i:Nat) k s).1
 | 0,_=>⟨h,hS⟩
 | k+1,hk=>by
  obtain ⟨h1,h2⟩:=FillOk.row h hn hi ho hS k (by omega)
  rw [zlW]
  exact ⟨h1.step hn hi (by omega),h1.sold hn hi (by omega) ho h2⟩
end
theorem zky (need:List Int) (l:List Pile) (i:Nat) (s:yZY × List Int):packV need l (i+1) s=((fillRow (i:Nat) need.length ((packV need l i s).1,(packV need l i s).2,l.drop i)).1,(fillRow (i:Nat) need.length ((packV need l i s).1,(packV need l i s).2,l.drop i)).2.1):=by
 rw [packV,ydP,ydK];rfl
structure PackOk (n:Nat) (l:List Pile) (s:yZY × List Int):Prop where
 d8:s.1.length=8
 dr:∀ r∈s.1,r.length=8
 ln:s.2.length=n
 lb:∀ a∈s.2,0<=a/\a<=most40
 sold:SoldOk l s.1
theorem PackOk.fill {n:Nat} {l:List Pile} {s:yZY × List Int} (h:PackOk n l s) (hl:l.length<=8) (hp:∀ p∈l,smallSet p.1/\amount p.2) {i:Nat} (hi:i<l.length):FillOk n (l.getD i noP).1 (s.1,s.2,l.drop i):=by
 refine ⟨h.d8,h.dr,h.ln,h.lb,?_,?_,fun p hm=>hp p (List.mem_of_mem_drop hm),fun k hk=>?_⟩
 ·show 1<=(l.drop i).length
  rw [ybJ];omega
 ·show (l.drop i).length<=8
  rw [ybJ];omega
 ·have e:(l.drop i).getD 0 noP=l.getD i noP:=by simp [yda]
  have hk:hasB ((l.drop i).getD 0 noP).1 (k:Nat)=true:=hk
  rw [e] at hk;exact hk
theorem pack_ok {need:List Int} {l:List Pile} (hn:need.length<=8) (hl:l.length<=8) (hp:∀ p∈l,smallSet p.1/\amount p.2) {s:yZY × List Int} (h:PackOk need.length l s):∀ i,i<=l.length->PackOk need.length l (packV need l i s)
 | 0,_=>h
 | i+1,hi=>by
  have h1:=pack_ok hn hl hp h i (by omega)
  obtain ⟨h2,h3⟩:=(h1.fill hl hp (i:=i) (by omega)).row hn (i:=i) (by omega) rfl h1.sold need.length (yag _)
  rw [zky]
  exact ⟨h2.d8,h2.dr,h2.ln,h2.lb,h3⟩
theorem znE (l:List Pile):sold0.length=8/\(∀ r∈sold0,r.length=8)/\SoldOk l sold0:=by
 refine ⟨rfl,by decide,fun j k h=>?_⟩
 have e:getG sold0 (j:Nat) (k:Nat)=0:=by
  simp only [getG,ydt]
  have hz:∀ m:Nat,zRow.getD m 0=0:=by
   intro m
   by_cases hm:m<8
   ·simp [yda,hm]
   ·simp [yda,hm]
  have h1:sold0.getD j zRow=zRow:=by
   by_cases hj:j<8
   ·simp [yda,hj]
   ·simp [yda,hj]
  rw [h1]
  exact hz k
 exact absurd e h
theorem ziR {need:List Int} {l:List Pile} (hb:BoxIs need l) {n:Int} (h0:0<=n) (h1:n<=8388609):PackOk need.length l (sold0,timesV need n):=by
 obtain ⟨e1,e2,e3⟩:=znE l
 exact ⟨e1,e2,zhx _ _,fun a ha=>by have:=zlK hb.nd h0 h1 a ha;simp only [most40];omega,e3⟩
end Go.Tt
/-
 Box: Fill's condition,and what it gives.
-/
namespace Go.Tt
open Go Go.Sx
theorem v26 (x:(List Int) × (List Pile) × Int) (_:k26.pre x):V26 x:=by
 refine ⟨trivial,fun h=>?_,fun h=>?_⟩
 ·have h:(zak x==0)=false:=not_iff.1.1 h
  show ([],zak x)=zaK x
  rw [zaK,h];rfl
 have hc:(zak x==0)=true:=not_iff.2.1 h
 obtain ⟨hb,h0,h1⟩:=zmz (eq_of_beq hc)
 have h1':x.2.2<=8388609:=by simp only [topN] at h1;omega
 refine ⟨⟨hb.n8,hb.nd,h0,h1'⟩,hb.ok h0 h1',fun h=>?_,fun h=>?_⟩
 ·have h:canF (timesV x.1 x.2.2) x.2.1=false:=not_iff.1.1 h
  show ([],10)=zaK x
  rw [zaK,hc,h];rfl
 have hcan:canF (timesV x.1 x.2.2) x.2.1=true:=not_iff.2.1 h
 have hval:zaK x=((yaf x.2.1.length).map fun i=>((fillAll x).getD i zRow).take x.1.length,0):=by rw [zaK,hc,hcan];rfl
 have hst:=ziR hb h0 h1'
 have hpk:=pack_ok hb.n8 hb.l8 hb.small hst
 have h8:=hb.n8
 have l8:=hb.l8
 refine ⟨fun s=>∃ i:Nat,s.1=(i:Int)/\i<=x.2.1.length/\s.2=packV x.1 x.2.1 i (sold0,timesV x.1 x.2.2),fun s=>((x.2.1.length:Int) - s.1).toNat,⟨0,rfl,ybr _,rfl⟩,?_⟩
 rintro ⟨i',sl⟩ ⟨i,rfl,hi,hs⟩
 simp only at hs ⊢
 subst hs
 have hp:=hpk i hi
 refine ⟨fun hd=>?_,fun hd=>?_⟩
 ·have hd:(i:Int)<(x.2.1.length:Int):=of_decide_eq_true hd
  have hil:i<x.2.1.length:=by omega
  have hF:=hp.fill l8 hb.small hil
  have e0:(x.2.1.drop (yby (i:Int)))=x.2.1.drop i:=rfl
  have hlen:((x.2.1.drop i).length:Int)=(x.2.1.length:Int) - i:=by rw [ybJ];omega
  refine ⟨⟨by omega,by omega⟩,?_,⟨ydB _,?_⟩,?_⟩
  ·show (x.2.1.drop i).length<=big
   rw [ybJ];simp only [big];omega
  ·show (0:Int)<((x.2.1.drop i).length:Int)
   omega
  generalize hS:packV x.1 x.2.1 i (sold0,timesV x.1 x.2.2)=S at hp hF
  have hrow:=hF.row h8 (i:=i) (by omega) rfl hp.sold
  refine ⟨fun s=>∃ k:Nat,s.1=(k:Int)/\k<=x.1.length/\s.2=fillRow (i:Nat) k (S.1,S.2,x.2.1.drop i),fun s=>((x.1.length:Int) - s.1).toNat,⟨0,rfl,ybr _,rfl⟩,?_⟩
  rintro ⟨k',st⟩ ⟨k,rfl,hk,hs⟩
  simp only at hs ⊢
  have hfk:=(hrow k hk).1
  rw [<-hs] at hfk
  refine ⟨fun hd2=>?_,fun hd2=>?_⟩
  ·have hd2:(k:Int)<(x.1.length:Int):=of_decide_eq_true hd2
   have hkl:k<x.1.length:=by omega
   have hm:=hfk.rp _ (zao st.2.2 noP 0 (by have:=hfk.r1;omega))
   have hnext:fillRow (i:Nat) (k+1) (S.1,S.2,x.2.1.drop i)=fillStep (i:Nat) (k:Nat) st:=by rw [zlW,hs]
   refine ⟨⟨hm.1.1,by show (0:Int)<=(k:Nat);omega,by show ((k:Nat):Int)<64;omega⟩,fun hh=>⟨by simp only [Z.in64];omega,by first | rfl | trivial,by first | rfl | trivial,⟨k+1,by simp,by omega,?_⟩,?_⟩,fun hh=>?_⟩
   ·have hh:hasB (st.2.2.getD (yby 0) noP).1 (k:Nat)=false:=not_iff.1.1 hh
    rw [hnext,fillStep,hh];rfl
   ·show ((x.1.length:Int) - (k+1)).toNat<((x.1.length:Int) - k).toNat
    omega
   ·have hh:hasB (st.2.2.getD (yby 0) noP).1 (k:Nat)=true:=not_iff.2.1 hh
    obtain ⟨g0,g1,g2,g3⟩:=hfk.num h8 hkl
    obtain ⟨o1,o2,o3⟩:=hfk.off (k:Nat)
    have hl:=hfk.lb _ (zao st.2.1 0 k (by rw [hfk.ln];exact hkl))
    have hm2:=hm.2
    have hkL:((0:Int)<=(k:Int))/\(k:Int)<(st.2.1.length:Int):=⟨by omega,by rw [hfk.ln];exact hd2⟩
    simp only [amount,topN,most40] at hm2 hl
    refine ⟨shl_ok (by omega) (by omega),⟨hm.1.1,pow_nn _⟩,hkL,g0,⟨by omega,by omega⟩,⟨by omega,by omega⟩,hkL,?_,hkL,?_,by simp only [Z.in64];omega,by first | rfl | trivial,by first | rfl | trivial,⟨k+1,by simp,by omega,?_⟩,?_⟩
    ·show Z.in64 (st.2.1.getD k 0 - numF st.2.1 (k:Nat) (offP' (k:Nat) st.2.2))
     simp only [Z.in64];omega
    ·show Z.in64 (((offP' (k:Nat) st.2.2).getD 0 noP).2 - numF st.2.1 (k:Nat) (offP' (k:Nat) st.2.2))
     rw [o3]
     simp only [Z.in64];omega
    ·rw [hnext,fillStep,hh];rfl
    ·show ((x.1.length:Int) - (k+1)).toNat<((x.1.length:Int) - k).toNat
     omega
  ·have hd2:¬ (k:Int)<(x.1.length:Int):=of_decide_eq_false hd2
   have hkn:k=x.1.length:=by omega
   subst hkn
   refine ⟨by simp only [Z.in64];omega,by first | rfl | trivial,⟨i+1,by simp,by omega,?_⟩,?_⟩
   ·rw [zky,hS,<-hs]
   ·show ((x.2.1.length:Int) - (i+1)).toNat<((x.2.1.length:Int) - i).toNat
    omega
 ·have hd:¬ (i:Int)<(x.2.1.length:Int):=of_decide_eq_false hd
  have hin:i=x.2.1.length:=by omega
  subst hin
  have hall:(packV x.1 x.2.1 x.2.1.length (sold0,timesV x.1 x.2.2)).1=fillAll x:=rfl
  have hd8:=hp.d8
  have hdr:=hp.dr
  rw [hall] at hd8 hdr
  obtain ⟨F,hF⟩:∃ F:Nat->List Int,F=fun i=>((fillAll x).getD i zRow).take x.1.length:=⟨_,rfl⟩
  refine ⟨⟨⟨by omega,ydB _⟩,by simp only [Z.roomy];omega⟩,?_⟩
  refine ⟨fun s=>∃ m:Nat,s.1=(m:Int)/\m<=x.2.1.length/\s.2=(yaf m).map F++yaa (x.2.1.length - m) ([]:List Int),fun s=>((x.2.1.length:Int) - s.1).toNat,⟨0,rfl,ybr _,rfl⟩,?_⟩
  rintro ⟨m',o⟩ ⟨m,rfl,hm,ho⟩
  simp only at ho ⊢
  have hol:o.length=x.2.1.length:=by rw [ho,yao,ycK,ydQ,List.length_replicate];omega
  have hrl:((yaa (yby (x.2.1.length:Int)) ([]:List Int)).length:Int)=(x.2.1.length:Int):=by simp
  refine ⟨fun hd2=>?_,fun hd2=>?_⟩
  ·have hd2:=of_decide_eq_true hd2
   rw [hrl] at hd2
   have e1:(packV x.1 x.2.1 x.2.1.length (sold0,timesV x.1 x.2.2)).1.getD m zRow=(fillAll x).getD m zRow:=rfl
   have hrow:((fillAll x).getD m zRow).length=8:=hdr _ (zao _ _ m (by omega))
   refine ⟨⟨by omega,by omega⟩,⟨by omega,by omega⟩,?_,⟨by omega,by omega⟩,by simp only [Z.in64];omega,by first | rfl | trivial,by first | rfl | trivial,by first | rfl | trivial,⟨m+1,by simp,by omega,?_⟩,?_⟩
   ·show (((fillAll x).getD m zRow).take x.1.length).length<=1000
    rw [ybo];omega
   ·show o.set m (((fillAll x).getD m zRow).take x.1.length)=_
    rw [ho,ydF _ _ (by simp),ycK,ydQ,ydq,ydP,List.map_append,yaz]
    obtain ⟨q,hq⟩:∃ q,x.2.1.length - m=q+1:=⟨x.2.1.length - m - 1,by omega⟩
    rw [hq,List.replicate_succ,show x.2.1.length - (m+1)=q from by omega,hF]
    rfl
   ·show ((x.2.1.length:Int) - (m+1)).toNat<((x.2.1.length:Int) - m).toNat
    omega
  ·have hd2:=of_decide_eq_false hd2
   rw [hrl] at hd2
   have hmn:m=x.2.1.length:=by omega
   subst hmn
   show (o,0)=zaK x
   rw [hval,ho,ydq,hF]
   simp
theorem fill_is {x:(List Int) × (List Pile) × Int} (hb:BoxIs x.1 x.2.1) (h0:0<=x.2.2) (h1:x.2.2<=topN) (hc:canF (timesV x.1 x.2.2) x.2.1=true) :
  (zaK x).2=0/\(zaK x).1.length=x.2.1.length/\∀ i k:Nat,i<x.2.1.length->((zaK x).1.getD i []).length=x.1.length/\(((zaK x).1.getD i []).getD k 0≠0->hasB (x.2.1.getD i noP).1 (k:Nat)=true):=by
 have hv:(zak x==0)=true:=by
  rw [zak,show boxB x.1 x.2.1=true from box_iff.2 hb,show inB x.2.2 0 topN=true from inB_iff.2 ⟨h0,h1⟩];rfl
 have hval:zaK x=((yaf x.2.1.length).map fun i=>((fillAll x).getD i zRow).take x.1.length,0):=by rw [zaK,hv,hc];rfl
 have hp:=pack_ok hb.n8 hb.l8 hb.small (ziR hb h0 (by simp only [topN] at h1;omega)) x.2.1.length (yag _)
 rw [hval]
 refine ⟨rfl,by simp,fun i k hi=>?_⟩
 have e:((yaf x.2.1.length).map fun i=>((fillAll x).getD i zRow).take x.1.length).getD i []=((fillAll x).getD i zRow).take x.1.length:=by
  simp [yda,hi]
 simp only [e]
 have h8:((fillAll x).getD i zRow).length=8:=hp.dr _ (zao _ _ i (by rw [hp.d8];have:=hb.l8;omega))
 refine ⟨by rw [ybo];have:=hb.n8;omega,fun hpos=>?_⟩
 refine hp.sold i k ?_
 have e2:getG (fillAll x) (i:Nat) (k:Nat)=((fillAll x).getD i zRow).getD k 0:=rfl
 show getG (fillAll x) (i:Nat) (k:Nat)≠0
 rw [e2]
 by_cases hk:k<x.1.length
 ·simp only [yda,List.getElem?_take_of_lt hk] at hpos
  exact hpos
 ·simp only [yda,List.getElem?_take_eq_none (Nat.le_of_not_lt hk)] at hpos
  simp at hpos
end Go.Tt
/-
 The reference of the boxes: what its functions give.
-/
namespace Go.Tt
open Go Go.Sx
def zcV (x:Int):Int:=2^x.toNat
def zfg (x:Int):Prop:=0<=x/\x<=8
def zbT (x:Int × Int):Bool:=hasB x.1 x.2
def zdz (x:Int × Int):Prop:=smallSet x.1/\0<=x.2/\x.2<=8
def zbS (x:Int × Int):Bool:=touchB x.2 x.1
def zeF (x:Int × Int):Prop:=smallSet x.1/\smallSet x.2
def zfJ (x:(List Pile) × Int):Int:=haveV x.1 x.2
def zhF (x:(List Pile) × Int):Prop:=x.1.length<=8/\(∀ p∈x.1,smallSet p.1/\amount p.2)/\smallSet x.2
def zcW (x:(List Int) × Int):Int:=sumV x.2 x.1
def zfh (x:(List Int) × Int):Prop:=x.1.length<=8/\(∀ n∈x.1,0<=n/\n<=most40)/\smallSet x.2
end Go.Tt
/- Written by a program of mine (wip/tools/gen.py): contexts and conditions of functions. -/
namespace Go.Tt
open Go Go.Sx
def TR:Tabs:={
 tyL:=[(3,I),(4,.bo),(56,(.sl I)),(57,(.sl (.st (.p I I)))),(62,(.st (.p I I)))],
 elL:=[(56,3),(57,62)],
 oneL:=[],
 mtyL:=[(122,(3,221)),(123,(3,221)),(147,(153,3)),(148,(153,3)),(249,(3,4)),(282,(4,281))] }
def k82:Con:={ args:=[I],res:=[I],pre:=zfg,val:=zcV }
def k97:Con:={ args:=[I,I],res:=[.bo],pre:=zdz,val:=zbT }
def k96:Con:={ args:=[I,I],res:=[.bo],pre:=zeF,val:=zbS }
def k31:Con:={ args:=[(.sl (.st (.p I I))),I],res:=[I],pre:=zhF,val:=zfJ }
def k32:Con:={ args:=[(.sl I),I],res:=[I],pre:=zfh,val:=zcW }
def cx82:Cx:=mkCx TR 13 [] [] [] [] [] [(3,⟨[(3,false),(4,false)],[],[],[]⟩)] [] none
def V82 (x:Int):Prop:=Z.LoopP (X:=yZZ) ((1,0)) (fun s0 K0=>(((decide ((s0.2:Int)<x)=true)->(Z.in64 (2*s0.1)/\(Z.in64 (s0.2+1)/\(K0 ((2*s0.1),(s0.2+1))))))/\((decide ((s0.2:Int)<x)=false)->((s0.1:Int)=(zcV x)))))
theorem e82 (x:Ds k82.args):vcFun cx82 f82 k82 x=V82 x:=by kernel_rfl
def cx97:Cx:=mkCx TR 11 [(82,k82)] [] [] [] [] [] [] none
def V97 (x:Int × Int):Prop:=((zfg x.2)/\(((((zcV x.2):Int)≠0)/\Z.in64 (ydR x.1 (zcV x.2)))/\(((2:Int)≠0)/\((((Int.tmod (ydR x.1 (zcV x.2)) 2)==1):Bool)=(zbT x)))))
theorem e97 (x:Ds k97.args):vcFun cx97 f97 k97 x=V97 x:=by kernel_rfl
def cx96:Cx:=mkCx TR 18 [(97,k97)] [] [] [] [] [(2,⟨[(5,false)],[],[],[]⟩)] [] none
def V96 (x:Int × Int):Prop:=Z.LoopP (X:=Int) (0) (fun s0 K0=>(((decide ((s0:Int)<8)=true)->((zdz (x.1,s0))/\((((zbT (x.1,s0))=true)->(zdz (x.2,s0)))/\(((((zbT (x.1,s0))&&(zbT (x.2,s0)))=true)->((true:Bool)=(zbS x)))/\((((zbT (x.1,s0))&&(zbT (x.2,s0)))=false)->(Z.in64 (s0+1)/\(K0 (s0+1))))))))/\((decide ((s0:Int)<8)=false)->((false:Bool)=(zbS x)))))
theorem e96 (x:Ds k96.args):vcFun cx96 f96 k96 x=V96 x:=by kernel_rfl
def cx31:Cx:=mkCx TR 28 [(96,k96)] [] [] [] [] [(3,⟨[(5,false),(6,false)],[],[],[]⟩)] [] none
def V31 (x:yZW × Int):Prop:=Z.LoopP (X:=yZZ) ((0,0)) (fun s0 K0=>(((decide ((s0.2:Int)<(x.1.length:Int))=true)->(((0:Int)<=s0.2/\(s0.2:Int)<(x.1.length:Int))/\((zeF ((x.1.getD (yby s0.2) (0,0)).1,x.2))/\((((zbS ((x.1.getD (yby s0.2) (0,0)).1,x.2))=true)->(((0:Int)<=s0.2/\(s0.2:Int)<(x.1.length:Int))/\(Z.in64 (s0.1+(x.1.getD (yby s0.2) (0,0)).2)/\(Z.in64 (s0.2+1)/\(K0 ((s0.1+(x.1.getD (yby s0.2) (0,0)).2),(s0.2+1)))))))/\(((zbS ((x.1.getD (yby s0.2) (0,0)).1,x.2))=false)->(Z.in64 (s0.2+1)/\(K0 (s0.1,(s0.2+1)))))))))/\((decide ((s0.2:Int)<(x.1.length:Int))=false)->((s0.1:Int)=(zfJ x)))))
theorem e31 (x:Ds k31.args):vcFun cx31 f31 k31 x=V31 x:=by kernel_rfl
def cx32:Cx:=mkCx TR 23 [(97,k97)] [] [] [] [] [(3,⟨[(5,false),(6,false)],[],[],[]⟩)] [] none
def V32 (x:(List Int) × Int):Prop:=Z.LoopP (X:=yZZ) ((0,0)) (fun s0 K0=>(((decide ((s0.2:Int)<(x.1.length:Int))=true)->((zdz (x.2,s0.2))/\((((zbT (x.2,s0.2))=true)->(((0:Int)<=s0.2/\(s0.2:Int)<(x.1.length:Int))/\(Z.in64 (s0.1+(x.1.getD (yby s0.2) 0))/\(Z.in64 (s0.2+1)/\(K0 ((s0.1+(x.1.getD (yby s0.2) 0)),(s0.2+1)))))))/\(((zbT (x.2,s0.2))=false)->(Z.in64 (s0.2+1)/\(K0 (s0.1,(s0.2+1))))))))/\((decide ((s0.2:Int)<(x.1.length:Int))=false)->((s0.1:Int)=(zcW x)))))
theorem e32 (x:Ds k32.args):vcFun cx32 f32 k32 x=V32 x:=by kernel_rfl
end Go.Tt
/-
 The reference of the boxes: conditions.
-/
namespace Go.Tt
open Go Go.Sx
theorem zfE:TabsOk prog TR:=⟨by kernel_rfl,maps_ok⟩
theorem pow_le8 {n:Int} (h0:0<=n) (h:n<=8):(1:Int)<=2^n.toNat/\(2:Int)^n.toNat<=256:=by
 have h1:(2:Nat)^n.toNat<=2^8:=ydx (by decide) (by omega)
 have h2:=Nat.two_pow_pos n.toNat
 rw [pow_int]
 generalize 2^n.toNat=m at *
 omega
theorem v82 (x:Int) (h:k82.pre x):V82 x:=by
 obtain ⟨h0,h8⟩:0<=x/\x<=8:=h
 refine ⟨fun s=>(0<=s.2/\s.2<=x)/\s.1=2^s.2.toNat,fun s=>(x - s.2).toNat,⟨⟨ydB _,h0⟩,rfl⟩,?_⟩
 rintro ⟨a,i⟩ ⟨⟨i0,i1⟩,e⟩
 simp only at i0 i1 e ⊢
 refine ⟨fun hd=>?_,fun hd=>?_⟩
 ·have hd:=of_decide_eq_true hd
  have hp:=pow_le8 i0 (by omega:i<=8)
  rw [<-e] at hp
  refine ⟨by simp only [Z.in64];omega,by simp only [Z.in64];omega,⟨⟨by omega,by omega⟩,?_⟩,by omega⟩
  have e1:(i+1).toNat=i.toNat+1:=by omega
  rw [e1,Int.pow_succ,e,Int.mul_comm]
 ·have hd:=of_decide_eq_false hd
  have:i=x:=by omega
  subst this
  exact e
theorem has_ref {s n:Int} (hs:0<=s) (hn:0<=n):((Int.tmod (ydR s (2^n.toNat)) 2)==1)=hasB s n:=by
 obtain ⟨m,rfl⟩:=ydw hs
 obtain ⟨k,rfl⟩:=ydw hn
 have e:ydR (m:Int) (2^(yby (k:Int)))=((m / 2^k:Nat):Int):=by
  rw [ydS (by omega)]
  simp
 rw [e,Int.tmod_eq_emod_of_nonneg (ydO _)]
 simp only [hasB,ydt,Nat.testBit_eq_decide_div_mod_eq]
 rw [Bool.eq_iff_iff]
 simp only [beq_iff_eq,decide_eq_true_eq]
 omega
theorem v97 (x:Int × Int) (h:k97.pre x):V97 x:=by
 obtain ⟨⟨h0,h1⟩,h2,h3⟩:smallSet x.1/\0<=x.2/\x.2<=8:=h
 have hb:=pow_le8 h2 h3
 have hd:0<=ydR x.1 (2^x.2.toNat)/\ydR x.1 (2^x.2.toNat)<=x.1:=by
  rw [ydS h0]
  exact ⟨yaX h0 (by omega),Int.ediv_le_self _ h0⟩
 refine ⟨⟨h2,h3⟩,⟨?_,?_⟩,by decide,?_⟩
 ·show (2:Int)^x.2.toNat≠0
  omega
 ·show Z.in64 (ydR x.1 (2^x.2.toNat))
  simp only [Z.in64];omega
 ·exact has_ref h0 h2
theorem znF {s:Int} (h:smallSet s) {k:Nat} (hk:8<=k):hasB s (k:Nat)=false:=by
 have h1:s.toNat<2^8:=by have:=h.1;have:=h.2;omega
 have h2:(2:Nat)^8<=2^k:=ydx (by decide) hk
 simp only [hasB,ydt]
 exact Nat.testBit_lt_two_pow (Nat.lt_of_lt_of_le h1 h2)
theorem v96 (x:Int × Int) (h:k96.pre x):V96 x:=by
 obtain ⟨h1,h2⟩:smallSet x.1/\smallSet x.2:=h
 have hval:zbS x=touchB x.2 x.1:=rfl
 rw [V96,hval]
 refine ⟨fun s=>(0<=s/\s<=8)/\∀ k:Nat,(k:Int)<s->(hasB x.2 (k:Nat)&&hasB x.1 (k:Nat))=false,fun s=>(8 - s).toNat,⟨⟨by decide,by decide⟩,fun k hk=>by omega⟩,?_⟩
 rintro i ⟨⟨i0,i1⟩,hno⟩
 refine ⟨fun hd=>?_,fun hd=>?_⟩
 ·have hd:=of_decide_eq_true hd
  refine ⟨⟨h1,i0,i1⟩,fun _=>⟨h2,i0,i1⟩,fun hb=>?_,fun hb=>⟨by simp only [Z.in64];omega,⟨⟨by omega,by omega⟩,fun k hk=>?_⟩,by show (8 - (i+1)).toNat<(8 - i).toNat;omega⟩⟩
  ·have hb:(hasB x.1 i&&hasB x.2 i)=true:=hb
   rw [yac] at hb
   obtain ⟨m,rfl⟩:=ydw i0
   exact (zjX.2 ⟨m,hb.2,hb.1⟩).symm
  ·by_cases e:(k:Int)<i
   ·exact hno k e
   ·have e:(k:Int)=i:=by omega
    rw [e,Bool.and_comm]
    exact hb
 ·have hd:=of_decide_eq_false hd
  have hn:¬ touchB x.2 x.1=true:=by
   rw [zjX]
   rintro ⟨k,g1,g2⟩
   by_cases hk:k<8
   ·have:=hno k (by omega)
    rw [g1,g2] at this;cases this
   ·rw [znF h1 (by omega)] at g2;cases g2
  cases e:touchB x.2 x.1 with
  | false=>rfl
  | true=>exact absurd e hn
theorem znZ (l:List Pile) (s i:Int) (h0:0<=i) (h:i<(l.length:Int)):haveV (l.take (i+1).toNat) s=haveV (l.take i.toNat) s+cond (touchB s (l.getD i.toNat (0,0)).1) (l.getD i.toNat (0,0)).2 0:=by
 have happ:∀ (l:List Pile) (p:Pile),haveV (l++[p]) s=haveV l s+cond (touchB s p.1) p.2 0:=by
  intro l p
  induction l with
  | nil=>simp [haveV]
  | cons q l ih=>simp only [List.cons_append,haveV,ih];omega
 have e:l.take (i+1).toNat=l.take i.toNat++[l.getD i.toNat (0,0)]:=by
  have e:(i+1).toNat=i.toNat+1:=by omega
  have h':i.toNat<l.length:=by omega
  rw [e,ydJ h']
  simp [yda,h']
 rw [e,happ]
theorem v31 (x:(List Pile) × Int) (h:k31.pre x):V31 x:=by
 obtain ⟨h8,hp,hs⟩:x.1.length<=8/\(∀ p∈x.1,smallSet p.1/\amount p.2)/\smallSet x.2:=h
 refine ⟨fun s=>(0<=s.2/\s.2<=(x.1.length:Int))/\s.1=haveV (x.1.take s.2.toNat) x.2,fun s=>((x.1.length:Int) - s.2).toNat,⟨⟨by simp,by simp⟩,rfl⟩,?_⟩
 rintro ⟨a,i⟩ ⟨⟨i0,i1⟩,e⟩
 simp only at i0 i1 e ⊢
 refine ⟨fun hd=>?_,fun hd=>?_⟩
 ·have hd:=of_decide_eq_true hd
  have hg:=hp _ (zcv x.1 (0,0) i i0 hd)
  have hst:=znZ x.1 x.2 i i0 hd
  rw [<-e] at hst
  have hb:=have_bd (l:=x.1.take i.toNat) (fun p hq=>(hp p (ydH hq)).2) x.2
  have hl:((x.1.take i.toNat).length:Int)<=8:=by rw [ybo];omega
  have ha:=hg.2
  simp only [amount,topN] at hb ha
  rw [<-e] at hb
  refine ⟨⟨i0,hd⟩,⟨hg.1,hs⟩,fun hh=>⟨⟨i0,hd⟩,by simp only [Z.in64];omega,by simp only [Z.in64];omega,⟨⟨by omega,by omega⟩,?_⟩,by omega⟩,fun hh=>⟨by simp only [Z.in64];omega,⟨⟨by omega,by omega⟩,?_⟩,by omega⟩⟩
  ·have hh:touchB x.2 (x.1.getD i.toNat (0,0)).1=true:=hh
   rw [hst,hh];rfl
  ·have hh:touchB x.2 (x.1.getD i.toNat (0,0)).1=false:=hh
   rw [hst,hh,cond_false,ydI]
 ·have hd:=of_decide_eq_false hd
  show a=haveV x.1 x.2
  rw [e,ydG (by omega)]
theorem v32 (x:(List Int) × Int) (h:k32.pre x):V32 x:=by
 obtain ⟨h8,hb,hs⟩:x.1.length<=8/\(∀ n∈x.1,0<=n/\n<=most40)/\smallSet x.2:=h
 refine ⟨fun s=>(0<=s.2/\s.2<=(x.1.length:Int))/\s.1=sumV x.2 (x.1.take s.2.toNat),fun s=>((x.1.length:Int) - s.2).toNat,⟨⟨by simp,by simp⟩,rfl⟩,?_⟩
 rintro ⟨a,i⟩ ⟨⟨i0,i1⟩,e⟩
 simp only at i0 i1 e ⊢
 refine ⟨fun hd=>?_,fun hd=>?_⟩
 ·have hd:i<(x.1.length:Int):=of_decide_eq_true hd
  have hg:=hb _ (zcv x.1 0 i i0 hd)
  have hs2:sumV x.2 (x.1.take (i+1).toNat)=a+cond (hasB x.2 i) (x.1.getD i.toNat 0) 0:=by
   rw [e,sumV,zkq _ _ _ i0 hd]
   have:((i.toNat:Nat):Int)=i:=by omega
   rw [this];rfl
  have hab:=sum_b40 (l:=x.1.take i.toNat) (by rw [ybo];omega) (fun a ha=>hb a (ydH ha)) x.2
  rw [<-e] at hab
  refine ⟨⟨hs,i0,by show i<=8;omega⟩,fun hh=>⟨⟨i0,hd⟩,?_,?_,⟨⟨by omega,by omega⟩,?_⟩,by omega⟩,fun hh=>⟨?_,⟨⟨by omega,by omega⟩,?_⟩,by omega⟩⟩
  ·simp only [Z.in64,most40] at *;omega
  ·simp only [Z.in64];omega
  ·have hh:hasB x.2 i=true:=hh
   rw [hs2,hh];rfl
  ·simp only [Z.in64];omega
  ·have hh:hasB x.2 i=false:=hh
   rw [hs2,hh,cond_false,ydI]
 ·have hd:¬ i<(x.1.length:Int):=of_decide_eq_false hd
  show a=sumV x.2 x.1
  rw [e,ydG (by omega)]
end Go.Tt
/-
 The reference of the boxes: what is valid.
-/
namespace Go.Tt
open Go Go.Sx
end Go.Tt
