/- Written by a program of mine (wip/tools/gen.py): contexts and conditions of functions. -/
import Derived.Test.YtdhdklojcppfcaaTtSAuto
import Derived.Test.YtdhdklojcppfcaaTtOAuto
import Derived.Test.YtdhdklojcppfcaaTtBSpec
import Derived.Test.YtdhdklojcppfcaaProg
set_option linter.all false
set_option linter.unusedVariables false
set_option maxRecDepth 100000
set_option maxHeartbeats 4000000
open Int renaming toNat->yby
open List renaming replicate->yaa
open Go.Proofs.Try
namespace Go.Tt
open Go Go.Sx
def TB:Tabs:={
 tyL:=[(3,I),(4,.bo),(36,I),(56,(.sl I)),(57,(.sl (.st (.p I I)))),(62,(.st (.p I I))),(70,(.sl (.sl I))),(135,(.f1 I .bo)),(148,(.mp I I)),(150,(.sq false I)),(151,(.sq false I)),(153,I),(158,(.arr 8 I)),(159,(.arr 8 (.arr 8 I))),(161,(.ref (.st (.p I I)))),(227,(.f1 (.st (.p I I)) .bo)),(230,(.f1 I .bo)),(242,(.sl I))],
 elL:=[(56,3),(57,62),(70,56),(242,153)],
 oneL:=[56,57,135,148,242],
 mtyL:=[(122,(3,221)),(123,(3,221)),(147,(153,3)),(148,(153,3)),(249,(3,4)),(282,(4,281))] }
def k137:Con:={ args:=[I,I,I],res:=[.bo],pre:=zcE,val:=zbr }
def k136:Con:={ args:=[I],res:=[.bo],pre:=zbM,val:=zcn }
def k138:Con:={ args:=[(.st (.p I I)),(.ref (.sl I))],res:=[.bo],pre:=zcv,val:=zcN }
def k180:Con:={ args:=[(.sl I),(.f1 I .bo)],res:=[I],pre:=zbU,val:=zbg }
def k139:Con:={ args:=[(.sl I),(.f1 I .bo)],res:=[.bo],pre:=zbF,val:=zaF }
def k181:Con:={ args:=[(.sl (.st (.p I I))),(.f1 (.st (.p I I)) .bo)],res:=[I],pre:=zbo,val:=zaC }
def k140:Con:={ args:=[(.sl (.st (.p I I))),(.f1 (.st (.p I I)) .bo)],res:=[.bo],pre:=zbf,val:=zav }
def k141:Con:={ args:=[(.sl I)],res:=[I],pre:=zdf,val:=zcx }
def k72:Con:={ args:=[(.sl I),(.sl (.st (.p I I)))],res:=[.bo],pre:=zeW,val:=zd }
def k85:Con:={ args:=[I,I],res:=[.bo],pre:=zeU,val:=zcZ }
def k80:Con:={ args:=[I,(.sl I)],res:=[I],pre:=zeT,val:=zbB }
def k144:Con:={ args:=[I,I],res:=[.bo],pre:=zdN,val:=zcm }
def k143:ICon:={ args:=[(.ref I)],two:=false,elt:=I,pre:=zeS,seq:=zcY }
def k78:Con:={ args:=[I],res:=[(.sq false I)],pre:=zh,val:=zdY }
def k77:Con:={ args:=[(.sl (.st (.p I I)))],res:=[(.mp I I)],pre:=zef,val:=zaQ }
def k79:Con:={ args:=[(.mp I I),I],res:=[I],pre:=zee,val:=zbj }
def k153:Con:={ args:=[(.sq false I)],res:=[(.sl I)],pre:=zcA,val:=zbb }
def k152:Con:={ args:=[(.mp I I),(.sl I),(.sl I)],res:=[I,I],pre:=zez,val:=zce }
def k95:Con:={ args:=[(.sl I),(.sl (.st (.p I I)))],res:=[I,I],pre:=zha,val:=zeV }
def k76:NCon:={ args:=[(.sl I),I],res:=[(.sl I)],pos:=0,el:=3,box:=false,pre:=zdM,val:=zaN }
def k75:Con:={ args:=[(.sl I),(.sl (.st (.p I I)))],res:=[.bo],pre:=zgw,val:=box_can }
def k142:Con:={ args:=[I,(.ref (.f1 I .bo))],res:=[.bo],pre:=zcf,val:=zbS }
def k73:Con:={ args:=[I,(.f1 I .bo)],res:=[I],pre:=zby,val:=zcw }
def k84:NCon:={ args:=[(.sl (.st (.p I I)))],res:=[(.sl (.st (.p I I)))],pos:=0,el:=62,box:=false,pre:=zaT,val:=zac }
def k86:Con:={ args:=[I,(.ref (.sl I)),(.ref I),(.ref (.sl (.st (.p I I))))],res:=[.bo],pre:=zgy,val:=zhd }
def k83:Con:={ args:=[(.sl I),(.sl (.st (.p I I))),I],res:=[I],pre:=zfQ,val:=zam }
def k74:Con:={ args:=[I,(.ref (.sl I)),(.ref (.sl (.st (.p I I))))],res:=[.bo],pre:=zgx,val:=zhb }
def k22:Con:={ args:=[(.sl I),(.sl (.st (.p I I)))],res:=[I,I,I],pre:=zkc,val:=zbC }
def k30:Con:={ args:=[(.sl I),(.sl (.st (.p I I))),I],res:=[I,I,I],pre:=zhc,val:=zbp }
def k26:Con:={ args:=[(.sl I),(.sl (.st (.p I I))),I],res:=[(.sl (.sl I)),I],pre:=zkd,val:=zbq }
def cx137:Cx:=mkCx TB 15 [] [] [] [] [] [] [] none
abbrev yZL:=(Prod Int Int)
abbrev yZK:=(List (List Int))
abbrev yZJ:=(Prod Int yZL)
abbrev yZI:=(List (Int × Int))
abbrev yZH:=(Prod yZK Int)
def V137 (x:Int × Int × Int):Prop:=(((decide ((x.2.1:Int)<=x.1)&&decide ((x.1:Int)<=x.2.2)):Bool)=(zbr x))
theorem e137 (x:Ds k137.args):vcFun cx137 f137 k137 x=V137 x:=by kernel_rfl
def cx136:Cx:=mkCx TB 6 [(137,k137)] [] [] [] [] [] [] none
def V136 (x:Int):Prop:=((zcE (x,0,48))/\(((!(zbr (x,0,48))):Bool)=(zcn x)))
theorem e136 (x:Ds k136.args):vcFun cx136 f136 k136 x=V136 x:=by kernel_rfl
def cx138:Cx:=mkCx TB 18 [(137,k137)] [] [] [] [] [] [] none
def V138 (x:(Int × Int) × List Int):Prop:=((((0:Int)<=(x.2.length:Int)/\((x.2.length:Int):Int)<64)/\Z.in64 (1*2^(yby ((x.2.length:Int)))))/\(Z.in64 ((1*2^(yby ((x.2.length:Int)))) - 1)/\((zcE (x.1.1,0,((1*2^(yby ((x.2.length:Int)))) - 1)))/\((((!(zbr (x.1.1,0,((1*2^(yby ((x.2.length:Int)))) - 1))))=false)->(zcE (x.1.2,0,1048576)))/\((((!(zbr (x.1.1,0,((1*2^(yby ((x.2.length:Int)))) - 1))))||(!(zbr (x.1.2,0,1048576)))):Bool)=(zcN x))))))
theorem e138 (x:Ds k138.args):vcFun cx138 f138 k138 x=V138 x:=by kernel_rfl
def cx180:Cx:=mkCx TB 19 [] [] [] [] [] [(2,⟨[(8,false)],[],[],[]⟩)] [] none
def V180 (x:(List Int) × Go.Sx.Fun Int Bool):Prop:=Z.LoopP (X:=Int) (0) (fun s0 K0=>(((decide ((s0:Int)<(x.1.length:Int))=true)->(((0:Int)<=s0/\(s0:Int)<(x.1.length:Int))/\((x.2.pre (x.1.getD (yby s0) 0))/\((((x.2.val (x.1.getD (yby s0) 0))=true)->((s0:Int)=(zbg x)))/\(((x.2.val (x.1.getD (yby s0) 0))=false)->(Z.in64 (s0+1)/\(K0 (s0+1))))))))/\((decide ((s0:Int)<(x.1.length:Int))=false)->(((-1):Int)=(zbg x)))))
theorem e180 (x:Ds k180.args):vcFun cx180 f180 k180 x=V180 x:=by kernel_rfl
def cx139:Cx:=mkCx TB 9 [(180,k180)] [] [] [] [] [] [] none
def V139 (x:(List Int) × Go.Sx.Fun Int Bool):Prop:=((zbU (x.1,x.2))/\((decide ((0:Int)<=(zbg (x.1,x.2))):Bool)=(zaF x)))
theorem e139 (x:Ds k139.args):vcFun cx139 f139 k139 x=V139 x:=by kernel_rfl
def cx181:Cx:=mkCx TB 19 [] [] [] [] [] [(2,⟨[(8,false)],[],[],[]⟩)] [] none
def V181 (x:yZI × Go.Sx.Fun (Int × Int) Bool):Prop:=Z.LoopP (X:=Int) (0) (fun s0 K0=>(((decide ((s0:Int)<(x.1.length:Int))=true)->(((0:Int)<=s0/\(s0:Int)<(x.1.length:Int))/\((x.2.pre (x.1.getD (yby s0) (0,0)))/\((((x.2.val (x.1.getD (yby s0) (0,0)))=true)->((s0:Int)=(zaC x)))/\(((x.2.val (x.1.getD (yby s0) (0,0)))=false)->(Z.in64 (s0+1)/\(K0 (s0+1))))))))/\((decide ((s0:Int)<(x.1.length:Int))=false)->(((-1):Int)=(zaC x)))))
theorem e181 (x:Ds k181.args):vcFun cx181 f181 k181 x=V181 x:=by kernel_rfl
def cx140:Cx:=mkCx TB 9 [(181,k181)] [] [] [] [] [] [] none
def V140 (x:yZI × Go.Sx.Fun (Int × Int) Bool):Prop:=((zbo (x.1,x.2))/\((decide ((0:Int)<=(zaC (x.1,x.2))):Bool)=(zav x)))
theorem e140 (x:Ds k140.args):vcFun cx140 f140 k140 x=V140 x:=by kernel_rfl
def cx141:Cx:=mkCx TB 25 [] [] [] [] [] [(5,⟨[(3,false),(4,false)],[],[],[]⟩)] [] none
def V141 (x:List Int):Prop:=(((decide (((x.length:Int):Int)<1)=true)->False)/\((decide (((x.length:Int):Int)<1)=false)->(((0:Int)<=0/\(0:Int)<(x.length:Int))/\Z.LoopP (X:=yZL) (((x.getD (yby 0) 0),1)) (fun s0 K0=>(((decide ((s0.2:Int)<(x.length:Int))=true)->(((0:Int)<=s0.2/\(s0.2:Int)<(x.length:Int))/\(Z.in64 (s0.2+1)/\(K0 ((max s0.1 (x.getD (yby s0.2) 0)),(s0.2+1))))))/\((decide ((s0.2:Int)<(x.length:Int))=false)->((s0.1:Int)=(zcx x))))))))
theorem e141 (x:Ds k141.args):vcFun cx141 f141 k141 x=V141 x:=by kernel_rfl
def cx72:Cx:=mkCx TB 35 [(136,k136),(138,k138),(137,k137),(139,k139),(140,k140),(141,k141)] [] [] [] [] [] [] none
def V72 (x:(List Int) × List (Int × Int)):Prop:=((zcE ((x.1.length:Int),1,8))/\(((((zbr ((x.1.length:Int),1,8))&&decide (((x.2.length:Int):Int)<=8))=true)->(zbF (x.1,(⟨zbM,zcn⟩:Go.Sx.Fun (Int) (Bool)))))/\((((((zbr ((x.1.length:Int),1,8))&&decide (((x.2.length:Int):Int)<=8))&&(!(zaF (x.1,(⟨zbM,zcn⟩:Go.Sx.Fun (Int) (Bool))))))=true)->(zbf (x.2,(⟨(fun x0=>(zcv (x0,x.1))),(fun x1=>(zcN (x1,x.1)))⟩:Go.Sx.Fun (yZL) (Bool)))))/\(((((((zbr ((x.1.length:Int),1,8))&&decide (((x.2.length:Int):Int)<=8))&&(!(zaF (x.1,(⟨zbM,zcn⟩:Go.Sx.Fun (Int) (Bool))))))&&(!(zav (x.2,(⟨(fun x2=>(zcv (x2,x.1))),(fun x3=>(zcN (x3,x.1)))⟩:Go.Sx.Fun (yZL) (Bool))))))=true)->(zdf x.1))/\(((((((zbr ((x.1.length:Int),1,8))&&decide (((x.2.length:Int):Int)<=8))&&(!(zaF (x.1,(⟨zbM,zcn⟩:Go.Sx.Fun (Int) (Bool))))))&&(!(zav (x.2,(⟨(fun x4=>(zcv (x4,x.1))),(fun x5=>(zcN (x5,x.1)))⟩:Go.Sx.Fun (yZL) (Bool))))))&&decide ((0:Int)<(zcx x.1))):Bool)=(zd x))))))
theorem e72 (x:Ds k72.args):vcFun cx72 f72 k72 x=V72 x:=by kernel_rfl
def cx85:Cx:=mkCx TB 10 [] [] [] [] [] [] [] none
def V85 (x:Int × Int):Prop:=(((0:Int)<=x.2/\(x.2:Int)<64)/\(((0:Int)<=(Int.fdiv x.1 (2^(yby (x.2))))/\(0:Int)<=1)/\((((((yby ((Int.fdiv x.1 (2^(yby (x.2)))))) &&& (yby (1)):Nat):Int)==1):Bool)=(zcZ x))))
theorem e85 (x:Ds k85.args):vcFun cx85 f85 k85 x=V85 x:=by kernel_rfl
def cx80:Cx:=mkCx TB 22 [(85,k85)] [] [] [] [] [(2,⟨[(4,false),(9,false)],[],[],[]⟩)] [] none
def V80 (x:Int × List Int):Prop:=Z.LoopP (X:=yZL) ((0,0)) (fun s0 K0=>(((decide ((s0.2:Int)<(x.2.length:Int))=true)->(((0:Int)<=s0.2/\(s0.2:Int)<(x.2.length:Int))/\((zeU (x.1,s0.2))/\((((zcZ (x.1,s0.2))=true)->(Z.in64 (s0.1+(x.2.getD (yby s0.2) 0))/\(Z.in64 (s0.2+1)/\(K0 ((s0.1+(x.2.getD (yby s0.2) 0)),(s0.2+1))))))/\(((zcZ (x.1,s0.2))=false)->(Z.in64 (s0.2+1)/\(K0 (s0.1,(s0.2+1)))))))))/\((decide ((s0.2:Int)<(x.2.length:Int))=false)->((s0.1:Int)=(zbB x)))))
theorem e80 (x:Ds k80.args):vcFun cx80 f80 k80 x=V80 x:=by kernel_rfl
def cx144:Cx:=mkCx TB 9 [] [] [] [] [] [] [] none
def V144 (x:Int × Int):Prop:=(((0:Int)<=x.1/\(0:Int)<=x.2)/\(((!((((yby (x.1)) &&& (yby (x.2)):Nat):Int)==0)):Bool)=(zcm x)))
theorem e144 (x:Ds k144.args):vcFun cx144 f144 k144 x=V144 x:=by kernel_rfl
def cx143 (ly:Nat) (x:Ds k143.args):Cx:=mkCx TB 15 [] [] [] [] [] [(1,⟨[(3,false)],[300000],[],[]⟩)] [] (some ⟨ly,300000,k143.two,k143.elt,k143.seq x⟩)
def V143 (ly:Nat) (x:Int):Prop:=Z.LoopP (X:=(Prod Int (Prod (List Int) Bool))) ((1,[],false)) (fun s0 K0=>(True/\(True/\((((0:Int)<=x/\(x:Int)<64)/\Z.in64 (1*2^(yby (x))))/\(True/\(True/\(True/\(True/\(((decide ((s0.1:Int)<(1*2^(yby (x))))=true)->((((ly:Nat)=ly)/\(s0.2.2=false))/\((∃ r1,((zcY x)=(s0.2.1++(s0.1::r1))))/\((True/\((((decide ((s0.1:Int)<(1*2^(yby (x))))&&true)=true)->(Z.in64 (s0.1+1)/\(K0 ((s0.1+1),(s0.2.1++[s0.1]),false))))/\(((decide ((s0.1:Int)<(1*2^(yby (x))))&&true)=false)->((false=false)->(((s0.2.1++[s0.1]):(List Int))=(zcY x))))))/\(True/\((((decide ((s0.1:Int)<(1*2^(yby (x))))&&false)=true)->(Z.in64 (s0.1+1)/\(K0 ((s0.1+1),(s0.2.1++[s0.1]),true))))/\(((decide ((s0.1:Int)<(1*2^(yby (x))))&&false)=false)->((true=false)->(((s0.2.1++[s0.1]):(List Int))=(zcY x))))))))))/\((decide ((s0.1:Int)<(1*2^(yby (x))))=false)->(True/\((((decide ((s0.1:Int)<(1*2^(yby (x))))&&false)=true)->(Z.in64 (s0.1+1)/\(K0 ((s0.1+1),s0.2))))/\(((decide ((s0.1:Int)<(1*2^(yby (x))))&&false)=false)->((s0.2.2=false)->((s0.2.1:(List Int))=(zcY x))))))))))))))))
theorem e143 (ly:Nat) (x:Ds k143.args):vcIter (cx143 ly x) f143 k143 x=V143 ly x:=by kernel_rfl
def cx78:Cx:=mkCx TB 4 [] [] [(143,k143)] [] [] [] [] none
def V78 (x:Int):Prop:=((⟨(zeS x),(zcY x)⟩:(Go.Sx.Seq Int))=(zdY x))
theorem e78 (x:Ds k78.args):vcFun cx78 f78 k78 x=V78 x:=by kernel_rfl
def cx77:Cx:=mkCx TB 22 [] [] [] [] [] [(3,⟨[(9,false)],[6],[],[]⟩)] [] none
def V77 (x:List (Int × Int)):Prop:=Z.LoopP (X:=(Prod Int (Int->(Option Int)))) ((0,(fun x1=>(none:Option (Int))))) (fun s0 K0=>(((decide ((s0.1:Int)<(x.length:Int))=true)->(((0:Int)<=s0.1/\(s0.1:Int)<(x.length:Int))/\(Z.in64 (((s0.2 ((x.getD (yby s0.1) (0,0)).1)).getD 0)+(x.getD (yby s0.1) (0,0)).2)/\(Z.in64 (s0.1+1)/\(K0 ((s0.1+1),(@Go.Sx.Z.mput (Int) (Int) (fun x2=>(fun x3=>(x2==x3))) s0.2 ((x.getD (yby s0.1) (0,0)).1) (((s0.2 ((x.getD (yby s0.1) (0,0)).1)).getD 0)+(x.getD (yby s0.1) (0,0)).2))))))))/\((decide ((s0.1:Int)<(x.length:Int))=false)->((s0.2:(Int->(Option Int)))=(zaQ x)))))
theorem e77 (x:Ds k77.args):vcFun cx77 f77 k77 x=V77 x:=by kernel_rfl
def cx79:Cx:=mkCx TB 24 [(144,k144)] [] [] [] [] [(3,⟨[(4,false)],[11],[],[]⟩)] [] none
def V79 (x:(Int->Option Int) × Int):Prop:=Z.LoopP (X:=(Prod Int (Prod (Int->(Option Int)) (List yZL)))) ((0,x.1,[])) (fun s0 K0=>((∀ k1,(∀ v2,(((s0.2.1 k1)=(some (v2):Option (Int)))->((∀ p3,((@List.Mem yZL p3 s0.2.2)->((p3.1=k1)->False)))->(True/\(((true=true)->(((0:Int)<=0/\(0:Int)<(((k1,v2)::s0.2.2).length:Int))/\((zdN (x.2,(((k1,v2)::s0.2.2).getD 0 (0,0)).1))/\((((zcm (x.2,(((k1,v2)::s0.2.2).getD 0 (0,0)).1))=true)->(Z.in64 (s0.1+(((k1,v2)::s0.2.2).getD 0 (0,0)).2)/\(K0 ((s0.1+(((k1,v2)::s0.2.2).getD 0 (0,0)).2),s0.2.1,((k1,v2)::s0.2.2)))))/\(((zcm (x.2,(((k1,v2)::s0.2.2).getD 0 (0,0)).1))=false)->(K0 (s0.1,s0.2.1,((k1,v2)::s0.2.2))))))))/\((true=false)->((s0.1:Int)=(zbj x)))))))))/\((∀ k4,(∀ v5,(((s0.2.1 k4)=(some (v5):Option (Int)))->(∃ r6,((@List.Mem yZL r6 s0.2.2)/\(r6.1=k4))))))->(True/\(((false=true)->(((0:Int)<=0/\(0:Int)<(s0.2.2.length:Int))/\((zdN (x.2,(s0.2.2.getD 0 (0,0)).1))/\((((zcm (x.2,(s0.2.2.getD 0 (0,0)).1))=true)->(Z.in64 (s0.1+(s0.2.2.getD 0 (0,0)).2)/\(K0 ((s0.1+(s0.2.2.getD 0 (0,0)).2),s0.2.1,s0.2.2))))/\(((zcm (x.2,(s0.2.2.getD 0 (0,0)).1))=false)->(K0 (s0.1,s0.2.1,s0.2.2)))))))/\((false=false)->((s0.1:Int)=(zbj x))))))))
theorem e79 (x:Ds k79.args):vcFun cx79 f79 k79 x=V79 x:=by kernel_rfl
def zqj:Cx:=withHld [2] <| mkCx TB 13 [] [] [] [] [2] [(2,⟨[],[2,150128],[],[]⟩)] [] none
def i153u_4:Inl:=mkInl 192 1000000 5000000 zqj f192
def cx153:Cx:=withInl [(4,i153u_4)] <| mkCx TB 5 [] [] [] [] [] [] [] none
def V153 (x:Go.Sx.Seq Int):Prop:=(True/\(x.1/\Z.RangeP (X:=(Prod (List Int) (List Int))) (([],[])) x.2 (fun e0 s0 K0=>(Z.roomy 1 ((s0.2++((yaa 1 0).set 0 e0)).length:Int)/\(K0 (s0.1,(s0.2++((yaa 1 0).set 0 e0)))))) (fun s0=>(True/\((s0.2:(List Int))=(zbb x))))))
theorem e153 (x:Ds k153.args):vcFun cx153 f153 k153 x=V153 x:=by kernel_rfl
def cx152:Cx:=mkCx TB 32 [(80,k80),(79,k79)] [] [] [] [] [(2,⟨[(6,false),(7,false),(13,false)],[],[],[]⟩)] [] none
def V152 (x:(Int->Option Int) × (List Int) × List Int):Prop:=Z.LoopP (X:=yZJ) ((0,0,0)) (fun s0 K0=>(((decide ((s0.2.2:Int)<(x.2.2.length:Int))=true)->(((0:Int)<=s0.2.2/\(s0.2.2:Int)<(x.2.2.length:Int))/\((zeT ((x.2.2.getD (yby s0.2.2) 0),x.2.1))/\((zee (x.1,(x.2.2.getD (yby s0.2.2) 0)))/\(Z.in64 ((zbB ((x.2.2.getD (yby s0.2.2) 0),x.2.1)) - (zbj (x.1,(x.2.2.getD (yby s0.2.2) 0))))/\(((decide ((s0.2.1:Int)<((zbB ((x.2.2.getD (yby s0.2.2) 0),x.2.1)) - (zbj (x.1,(x.2.2.getD (yby s0.2.2) 0)))))=true)->(Z.in64 (s0.2.2+1)/\(K0 ((x.2.2.getD (yby s0.2.2) 0),((zbB ((x.2.2.getD (yby s0.2.2) 0),x.2.1)) - (zbj (x.1,(x.2.2.getD (yby s0.2.2) 0)))),(s0.2.2+1)))))/\((decide ((s0.2.1:Int)<((zbB ((x.2.2.getD (yby s0.2.2) 0),x.2.1)) - (zbj (x.1,(x.2.2.getD (yby s0.2.2) 0)))))=false)->(Z.in64 (s0.2.2+1)/\(K0 (s0.1,s0.2.1,(s0.2.2+1)))))))))))/\((decide ((s0.2.2:Int)<(x.2.2.length:Int))=false)->(((s0.1,s0.2.1):yZL)=(zce x)))))
theorem e152 (x:Ds k152.args):vcFun cx152 f152 k152 x=V152 x:=by kernel_rfl
def cx95:Cx:=mkCx TB 16 [(77,k77),(78,k78),(153,k153),(152,k152)] [] [] [] [] [] [] none
def V95 (x:(List Int) × List (Int × Int)):Prop:=((zef x.2)/\((zh (x.1.length:Int))/\((zcA (zdY (x.1.length:Int)))/\((zez ((zaQ x.2),x.1,(zbb (zdY (x.1.length:Int)))))/\((((zce ((zaQ x.2),x.1,(zbb (zdY (x.1.length:Int))))).1,(zce ((zaQ x.2),x.1,(zbb (zdY (x.1.length:Int))))).2):yZL)=(zeV x))))))
theorem e95 (x:Ds k95.args):vcFun cx95 f95 k95 x=V95 x:=by kernel_rfl
def cx76:Cx:=mkCxN TB 23 [] [] [] [(87,k87)] [] [] [(3,⟨[(11,false)],[8],[],[]⟩)] [] none
def V76 (x:(List Int) × Int):Prop:=((zah x.1)/\Z.LoopP (X:=(Prod Int (List Int))) ((0,(za x.1))) (fun s0 K0=>(((decide ((s0.1:Int)<((za x.1).length:Int))=true)->(((0:Int)<=s0.1/\(s0.1:Int)<(s0.2.length:Int))/\(Z.in64 ((s0.2.getD (yby s0.1) 0)*x.2)/\(((0:Int)<=s0.1/\(s0.1:Int)<(s0.2.length:Int))/\(Z.in64 (s0.1+1)/\(K0 ((s0.1+1),(s0.2.set (yby s0.1) ((s0.2.getD (yby s0.1) 0)*x.2)))))))))/\((decide ((s0.1:Int)<((za x.1).length:Int))=false)->((s0.2:(List Int))=(zaN x))))))
theorem e76 (x:Ds k76.args):vcFunN cx76 f76 k76 x=V76 x:=by kernel_rfl
def cx75:Cx:=mkCx TB 15 [(95,k95)] [] [] [] [] [] [] none
def V75 (x:(List Int) × List (Int × Int)):Prop:=((zha (x.1,x.2))/\((((zeV (x.1,x.2)).2==0):Bool)=(box_can x)))
theorem e75 (x:Ds k75.args):vcFun cx75 f75 k75 x=V75 x:=by kernel_rfl
def cx142:Cx:=mkCx TB 9 [] [] [] [] [] [] [] none
def V142 (x:Int × Go.Sx.Fun Int Bool):Prop:=(Z.in64 (x.1+1)/\((x.2.pre (x.1+1))/\(((!(x.2.val (x.1+1))):Bool)=(zbS x))))
theorem e142 (x:Ds k142.args):vcFun cx142 f142 k142 x=V142 x:=by kernel_rfl
def cx73:Cx:=mkCx TB 8 [(142,k142),(62,k62)] [] [] [] [] [] [] none
def V73 (x:Int × Go.Sx.Fun Int Bool):Prop:=((zdp (x.1,(⟨(fun x0=>(zcf (x0,x.2))),(fun x1=>(zbS (x1,x.2)))⟩:Go.Sx.Fun (Int) (Bool))))/\(((zdy (x.1,(⟨(fun x2=>(zcf (x2,x.2))),(fun x3=>(zbS (x3,x.2)))⟩:Go.Sx.Fun (Int) (Bool)))):Int)=(zcw x)))
theorem e73 (x:Ds k73.args):vcFun cx73 f73 k73 x=V73 x:=by kernel_rfl
def cx84:Cx:=mkCx TB 8 [] [] [] [] [] [] [] none
def V84 (x:List (Int × Int)):Prop:=(True/\(((x=[])->(((true=true)->(([]:(List yZL))=(zac x)))/\((true=false)->(Z.roomy 2 (((yaa 0 (0,0))++x).length:Int)/\((((yaa 0 (0,0))++x):(List yZL))=(zac x))))))/\(((false=true)->(([]:(List yZL))=(zac x)))/\((false=false)->(Z.roomy 2 (((yaa 0 (0,0))++x).length:Int)/\((((yaa 0 (0,0))++x):(List yZL))=(zac x)))))))
theorem e84 (x:Ds k84.args):vcFunN cx84 f84 k84 x=V84 x:=by kernel_rfl
def cx86:Cx:=mkCxN TB 26 [(75,k75)] [] [] [(87,k87),(84,k84)] [] [] [] [] none
def V86 (x:Int × (List Int) × Int × List (Int × Int)):Prop:=((zah x.2.1)/\(((0:Int)<=x.2.2.1/\(x.2.2.1:Int)<((za x.2.1).length:Int))/\((zaT x.2.2.2)/\(((0:Int)<=0/\(0:Int)<((zac x.2.2.2).length:Int))/\(Z.in64 (((zac x.2.2.2).getD (yby 0) (0,0)).2 - x.1)/\(((0:Int)<=0/\(0:Int)<((zac x.2.2.2).length:Int))/\((zgw (((za x.2.1).set (yby x.2.2.1) 0),((zac x.2.2.2).set (yby 0) (((zac x.2.2.2).getD (yby 0) (0,0)).1,(((zac x.2.2.2).getD (yby 0) (0,0)).2 - x.1)))))/\(((box_can (((za x.2.1).set (yby x.2.2.1) 0),((zac x.2.2.2).set (yby 0) (((zac x.2.2.2).getD (yby 0) (0,0)).1,(((zac x.2.2.2).getD (yby 0) (0,0)).2 - x.1))))):Bool)=(zhd x)))))))))
theorem e86 (x:Ds k86.args):vcFun cx86 f86 k86 x=V86 x:=by kernel_rfl
def cx83:Cx:=mkCx TB 16 [(72,k72),(137,k137)] [] [] [] [] [] [] none
def V83 (x:(List Int) × yZI × Int):Prop:=((zeW (x.1,x.2.1))/\((((!(zd (x.1,x.2.1)))=true)->((1:Int)=(zam x)))/\(((!(zd (x.1,x.2.1)))=false)->((zcE (x.2.2,0,1048576))/\((((!(zbr (x.2.2,0,1048576)))=true)->((2:Int)=(zam x)))/\(((!(zbr (x.2.2,0,1048576)))=false)->((0:Int)=(zam x))))))))
theorem e83 (x:Ds k83.args):vcFun cx83 f83 k83 x=V83 x:=by kernel_rfl
def cx74:Cx:=mkCxN TB 10 [(75,k75)] [] [] [(76,k76)] [] [] [] [] none
def V74 (x:Int × (List Int) × List (Int × Int)):Prop:=((zdM (x.2.1,x.1))/\((zgw ((zaN (x.2.1,x.1)),x.2.2))/\(((box_can ((zaN (x.2.1,x.1)),x.2.2)):Bool)=(zhb x))))
theorem e74 (x:Ds k74.args):vcFun cx74 f74 k74 x=V74 x:=by kernel_rfl
def cx22:Cx:=mkCxN TB 35 [(72,k72),(74,k74),(73,k73),(77,k77),(78,k78),(79,k79),(80,k80)] [] [] [(76,k76)] [7,8] [] [(6,⟨[],[4,5,6],[21,7,8],[]⟩)] [] none
def V22 (x:(List Int) × List (Int × Int)):Prop:=((zeW (x.1,x.2))/\((((!(zd (x.1,x.2)))=true)->(((0,0,1):yZJ)=(zbC x)))/\(((!(zd (x.1,x.2)))=false)->((zby (8388608,(mostF x.1 x.2)))/\((zef x.2)/\(Z.in64 ((mostB x)+1)/\((zdM (x.1,((mostB x)+1)))/\((zh (x.1.length:Int))/\((zdY (x.1.length:Int)).1/\Z.RangeP (X:=yZJ) (((mostB x),0,0)) ((zdY (x.1.length:Int)).2) (fun e6 s6 K6=>((zee ((zaQ x.2),e6))/\((zeT (e6,(zaN (x.1,((mostB x)+1)))))/\(((decide (((zbB (e6,(zaN (x.1,((mostB x)+1))))):Int)<=(zbj ((zaQ x.2),e6)))=true)->((((zaN (x.1,((mostB x)+1))):(List Int))=(zaN (x.1,((mostB x)+1))))/\((((zaQ x.2):(Int->(Option Int)))=(zaQ x.2))/\(True/\(K6 (s6.1,s6.2.1,s6.2.2))))))/\((decide (((zbB (e6,(zaN (x.1,((mostB x)+1))))):Int)<=(zbj ((zaQ x.2),e6)))=false)->((((zaN (x.1,((mostB x)+1))):(List Int))=(zaN (x.1,((mostB x)+1))))/\((((zaQ x.2):(Int->(Option Int)))=(zaQ x.2))/\(True/\(((s6.1,e6,0):yZJ)=(zbC x)))))))))) (fun s6=>(((0,0,4):yZJ)=(zbC x))))))))))))
theorem e22 (x:Ds k22.args):vcFun cx22 f22 k22 x=V22 x:=by kernel_rfl
def cx30:Cx:=mkCxN TB 31 [(83,k83),(95,k95)] [] [] [(76,k76)] [] [] [] [] none
def V30 (x:(List Int) × yZI × Int):Prop:=((zfQ (x.1,x.2.1,x.2.2))/\((((!((zam (x.1,x.2.1,x.2.2))==0))=true)->(((0,0,(zam (x.1,x.2.1,x.2.2))):yZJ)=(zbp x)))/\(((!((zam (x.1,x.2.1,x.2.2))==0))=false)->((zdM (x.1,x.2.2))/\((zha ((zaN (x.1,x.2.2)),x.2.1))/\(((((zeV ((zaN (x.1,x.2.2)),x.2.1)).2==0)=true)->(((0,0,4):yZJ)=(zbp x)))/\((((zeV ((zaN (x.1,x.2.2)),x.2.1)).2==0)=false)->((((zeV ((zaN (x.1,x.2.2)),x.2.1)).1,(zeV ((zaN (x.1,x.2.2)),x.2.1)).2,0):yZJ)=(zbp x)))))))))
theorem e30 (x:Ds k30.args):vcFun cx30 f30 k30 x=V30 x:=by kernel_rfl
def cx26:Cx:=withR [101] <| withHld [9,12] <| mkCxN TB 118 [(83,k83),(75,k75),(85,k85),(86,k86),(73,k73)] [] [] [(76,k76),(84,k84),(87,k87)] [] [] [(9,⟨[(35,false)],[10,28],[9],[]⟩),(14,⟨[(46,false)],[10,28,41],[9,12],[]⟩),(27,⟨[(104,false)],[101],[9,10,28],[10]⟩)] [] none
def V26 (x:(List Int) × yZI × Int):Prop:=((zfQ (x.1,x.2.1,x.2.2))/\((((!((zam (x.1,x.2.1,x.2.2))==0))=true)->((([],(zam (x.1,x.2.1,x.2.2))):yZH)=(zbq x)))/\(((!((zam (x.1,x.2.1,x.2.2))==0))=false)->((zdM (x.1,x.2.2))/\((zgw ((zaN (x.1,x.2.2)),x.2.1))/\((((!(box_can ((zaN (x.1,x.2.2)),x.2.1)))=true)->((([],10):yZH)=(zbq x)))/\(((!(box_can ((zaN (x.1,x.2.2)),x.2.1)))=false)->Z.LoopP (X:=(Prod Int (Prod yZK (List Int)))) ((0,(yaa 8 (yaa 8 0)),(zaN (x.1,x.2.2)))) (fun s0 K0=>(((decide ((s0.1:Int)<(x.2.1.length:Int))=true)->(((0:Int)<=s0.1/\(s0.1:Int)<=(x.2.1.length:Int))/\((zaT (x.2.1.drop (yby s0.1)))/\(((0:Int)<=0/\(0:Int)<((zac (x.2.1.drop (yby s0.1))).length:Int))/\Z.LoopP (X:=(Prod Int (Prod yZK (Prod (List Int) (List yZL))))) ((0,s0.2.1,s0.2.2,(zac (x.2.1.drop (yby s0.1))))) (fun s1 K1=>(((decide ((s1.1:Int)<(x.1.length:Int))=true)->((zeU ((s1.2.2.2.getD (yby 0) (0,0)).1,s1.1))/\((((!(zcZ ((s1.2.2.2.getD (yby 0) (0,0)).1,s1.1)))=true)->(Z.in64 (s1.1+1)/\((([]:(List Int))=[])/\((([]:(List yZL))=[])/\(K1 ((s1.1+1),s1.2.1,s1.2.2.1,s1.2.2.2))))))/\(((!(zcZ ((s1.2.2.2.getD (yby 0) (0,0)).1,s1.1)))=false)->((((0:Int)<=s1.1/\(s1.1:Int)<64)/\Z.in64 (1*2^(yby (s1.1))))/\(((0:Int)<=(s1.2.2.2.getD (yby 0) (0,0)).1/\(0:Int)<=(1*2^(yby (s1.1))))/\(((0:Int)<=s1.1/\(s1.1:Int)<(s1.2.2.1.length:Int))/\((zby ((min (((offP' s1.1 s1.2.2.2).getD (yby 0) (0,0)).2) (s1.2.2.1.getD (yby s1.1) 0)),(ownF s1.2.2.1 s1.1 (offP' s1.1 s1.2.2.2))))/\(((0:Int)<=s0.1/\(s0.1:Int)<8)/\(((0:Int)<=s1.1/\(s1.1:Int)<8)/\(((0:Int)<=s1.1/\(s1.1:Int)<(s1.2.2.1.length:Int))/\(Z.in64 ((s1.2.2.1.getD (yby s1.1) 0) - (numF s1.2.2.1 s1.1 (offP' s1.1 s1.2.2.2)))/\(((0:Int)<=s1.1/\(s1.1:Int)<(s1.2.2.1.length:Int))/\(Z.in64 (((offP' s1.1 s1.2.2.2).getD (yby 0) (0,0)).2 - (numF s1.2.2.1 s1.1 (offP' s1.1 s1.2.2.2)))/\(Z.in64 (s1.1+1)/\((([]:(List Int))=[])/\((([]:(List yZL))=[])/\(K1 ((s1.1+1),(s1.2.1.set (yby s0.1) ((s1.2.1.getD (yby s0.1) (yaa 8 0)).set (yby s1.1) (numF s1.2.2.1 s1.1 (offP' s1.1 s1.2.2.2)))),(s1.2.2.1.set (yby s1.1) ((s1.2.2.1.getD (yby s1.1) 0) - (numF s1.2.2.1 s1.1 (offP' s1.1 s1.2.2.2)))),((offP' s1.1 s1.2.2.2).set (yby 0) (((offP' s1.1 s1.2.2.2).getD (yby 0) (0,0)).1,(((offP' s1.1 s1.2.2.2).getD (yby 0) (0,0)).2 - (numF s1.2.2.1 s1.1 (offP' s1.1 s1.2.2.2))))))))))))))))))))))))/\((decide ((s1.1:Int)<(x.1.length:Int))=false)->(Z.in64 (s0.1+1)/\((([]:(List Int))=[])/\(K0 ((s0.1+1),s1.2.1,s1.2.2.1)))))))))))/\((decide ((s0.1:Int)<(x.2.1.length:Int))=false)->((((0:Int)<=(x.2.1.length:Int)/\((x.2.1.length:Int):Int)<=(x.2.1.length:Int))/\Z.roomy 1 (x.2.1.length:Int))/\Z.LoopP (X:=(Prod Int yZK)) ((0,(yaa (yby (x.2.1.length:Int)) ([]:List Int)))) (fun s14 K14=>(((decide ((s14.1:Int)<((yaa (yby (x.2.1.length:Int)) ([]:List Int)).length:Int))=true)->(((0:Int)<=s14.1/\(s14.1:Int)<8)/\(((0:Int)<=(x.1.length:Int)/\((x.1.length:Int):Int)<=8)/\((zah ((s0.2.1.getD (yby s14.1) (yaa 8 0)).take (yby (x.1.length:Int))))/\(((0:Int)<=s14.1/\(s14.1:Int)<(s14.2.length:Int))/\(Z.in64 (s14.1+1)/\((([]:(List Int))=[])/\(((s0.2.1:yZK)=s0.2.1)/\(((s0.2.2:(List Int))=s0.2.2)/\(K14 ((s14.1+1),(s14.2.set (yby s14.1) (za ((s0.2.1.getD (yby s14.1) (yaa 8 0)).take (yby (x.1.length:Int))))))))))))))))/\((decide ((s14.1:Int)<((yaa (yby (x.2.1.length:Int)) ([]:List Int)).length:Int))=false)->(((s14.2,0):yZH)=(zbq x))))))))))))))))
theorem e26 (x:Ds k26.args):vcFun cx26 f26 k26 x=V26 x:=by kernel_rfl
end Go.Tt
