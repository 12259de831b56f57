/-
  TopFast: what its functions give.
-/
import Derived.Test.YtdhdklojcppfcaaTtZT6
import Derived.Test.YtdhdklojcppfcaaTtRP2
import Derived.Test.YtdhdklojcppfcaaProg
set_option linter.all false
set_option maxRecDepth 100000
open Bool renaming and_eq_true->yac,or_eq_false_iff->yeo,or_eq_true->yaE
open Int renaming mul_comm->yen,tdiv->ydR,tmod->yel,toNat->yby,toNat_natCast->ydt
open List renaming getD->yda,length_append->yao,length_replicate->ydY,length_set->ybV,mem_iff_getElem->yeq,mem_or_eq_of_mem_set->yep,replicate->yaa
open Nat renaming pow_le_pow_right->ydx,pow_pos->yem,zero_le->ybr
open Go.Proofs.Try
namespace Go.Tt
open Go Go.Sx
def zcE (_:Unit):Bool:=true
def zcb (_:Unit):Prop:=True
abbrev FastIn:=Fade.Fading × (List Int) × Int
def zbb (_:FastIn):Bool:=true
def zfC (x:FastIn):Prop:=(Fade.sizeP x.1/\(∀ b∈x.2.1,(0:Int)<=b/\b<=65535))/\(0:Int)<=x.2.2/\x.2.2<=255
abbrev ndQ (l:List Int):List Int:=l.set (yby 0) (l.getD (yby 0) 0+1)
abbrev nQ (x:FastIn):Int:=yel x.2.2 40
abbrev flQ (x:FastIn) (p:List Pile) (l:List Int):(List (List Int)) × Int:=zaK (ndQ l,p,nQ x)
abbrev lkQ (x:FastIn) (p:List Pile) (l:List Int):Int × Int × Int:=zbF (ndQ l,p,nQ x)
abbrev grQ (x:FastIn) (k:Int):(Int × Int) × Int:=Fade.fade_Grade (x.1,k)
abbrev tbQ (x:FastIn):(List (List Int)) × Bool:=Fade.ref12u_TableOf (x.1,(x.1.2.2.2.length:Int))
abbrev ckQ (x:FastIn) (i:Int):Int × Int × Int × Bool:=x.1.2.2.2.getD (yby i) (0,0,0,false)
end Go.Tt
/- Written by a program of mine (wip/tools/gen.py): contexts and conditions of functions. -/
set_option maxHeartbeats 4000000
namespace Go.Tt
open Go Go.Sx Go.Fade
def TQ:Tabs:={
 tyL:=[(3,I),(4,.bo),(5,(.i .u8)),(31,(.st (.p I I))),(36,I),(56,(.sl I)),(57,(.sl (.st (.p I I)))),(58,(.sl (.st (.p I I)))),(62,(.st (.p I I))),(70,(.sl (.sl I))),(74,(.sl (.st (.p I (.p I (.p I .bo)))))),(76,(.st (.p (.sl (.st (.p I I))) (.p (.sl (.st (.p I I))) (.p I (.sl (.st (.p I (.p I (.p I .bo)))))))))),(77,(.sl (.i .u16))),(80,(.i .u16)),(84,(.sl (.sl I))),(89,(.st (.p I (.p I (.p I .bo)))))],
 elL:=[(56,3),(57,62),(58,31),(70,56),(74,89),(77,80),(84,56)],
 oneL:=[56,58,74],
 mtyL:=[(122,(3,221)),(123,(3,221)),(147,(153,3)),(148,(153,3)),(249,(3,4)),(282,(4,281))] }
def k28:Con:={ args:=[],res:=[.bo],pre:=zcb,val:=zcE }
def k5:Con:={ args:=[(.st (.p (.sl (.st (.p I I))) (.p (.sl (.st (.p I I))) (.p I (.sl (.st (.p I (.p I (.p I .bo))))))))),(.sl (.i .u16)),(.i .u8)],res:=[.bo],pre:=zfC,val:=zbb }
def cx28:Cx:=mkCx TQ 48 [(29,k29),(22,k22)] [] [] [] [] [] [] none
abbrev yZH:=(List (Prod Int Int))
def V28 (x:Unit):Prop:=((zeM ((((yaa 1 (0,0)).set 0 (100,120)),((yaa 1 (0,0)).set 0 (60,80)),1,((yaa 1 (0,0,0,false)).set 0 (1,1,0,false))),0))/\((zjb (((((yaa 3 0).set 0 2).set 1 1).set 2 1),((((yaa 3 (0,0)).set 0 (3,10)).set 1 (6,6)).set 2 (4,3))))/\((((((((((fade_Grade ((((yaa 1 (0,0)).set 0 (100,120)),((yaa 1 (0,0)).set 0 (60,80)),1,((yaa 1 (0,0,0,false)).set 0 (1,1,0,false))),0)).1).1==1)&&(((fade_Grade ((((yaa 1 (0,0)).set 0 (100,120)),((yaa 1 (0,0)).set 0 (60,80)),1,((yaa 1 (0,0,0,false)).set 0 (1,1,0,false))),0)).1).2==1))&&((fade_Grade ((((yaa 1 (0,0)).set 0 (100,120)),((yaa 1 (0,0)).set 0 (60,80)),1,((yaa 1 (0,0,0,false)).set 0 (1,1,0,false))),0)).2==0))&&((zca (((((yaa 3 0).set 0 2).set 1 1).set 2 1),((((yaa 3 (0,0)).set 0 (3,10)).set 1 (6,6)).set 2 (4,3)))).1==4))&&(((zca (((((yaa 3 0).set 0 2).set 1 1).set 2 1),((((yaa 3 (0,0)).set 0 (3,10)).set 1 (6,6)).set 2 (4,3)))).2).1==7))&&(((zca (((((yaa 3 0).set 0 2).set 1 1).set 2 1),((((yaa 3 (0,0)).set 0 (3,10)).set 1 (6,6)).set 2 (4,3)))).2).2==0)):Bool)=(zcE x))))
theorem e28 (x:Ds k28.args):vcFun cx28 f28 k28 x=V28 x:=by kernel_rfl
def cx5:Cx:=mkCx TQ 299 [(27,k27),(28,k28),(29,k29),(26,k26),(30,k30),(31,k31),(32,k32),(33,k33),(34,k34),(35,k35)] [] [] [] [] [(7,⟨[(7,true),(8,true),(57,false)],[],[54],[]⟩),(18,⟨[(115,false)],[54],[100007,100008],[]⟩),(34,⟨[(199,false)],[],[100007,100008,54],[]⟩),(39,⟨[(211,false)],[],[100007,100008,54],[]⟩),(45,⟨[(247,false)],[],[100007,100008,54],[]⟩),(48,⟨[(254,false)],[],[100007,100008,54,27],[]⟩)] [] none
def V5 (x:((List (Int × Int)) × (List (Int × Int)) × Int × List (Int × Int × Int × Bool)) × (List Int) × Int):Prop:=((((((x.2.1.length:Int)==0)||decide ((7:Int)<(x.1.2.1.length:Int)))=false)->(zff x.1))/\((((((((x.2.1.length:Int)==0)||decide ((7:Int)<(x.1.2.1.length:Int)))||(!(zbv x.1)))||(x.1.2.2.1==0))=true)->((zcb ())/\(((zcE ()):Bool)=(zbb x))))/\(((((((x.2.1.length:Int)==0)||decide ((7:Int)<(x.1.2.1.length:Int)))||(!(zbv x.1)))||(x.1.2.2.1==0))=false)->(Z.in64 ((x.1.2.1.length:Int)+1)/\((((0:Int)<=((x.1.2.1.length:Int)+1)/\(((x.1.2.1.length:Int)+1):Int)<=((x.1.2.1.length:Int)+1))/\Z.roomy 1 ((x.1.2.1.length:Int)+1))/\Z.LoopP (X:=(Prod yZH (Prod yZH Int))) (([],[],0)) (fun s0 K0=>(((decide ((s0.2.2:Int)<x.1.2.2.1)=true)->((zeM (x.1,s0.2.2))/\((((!((grQ x s0.2.2).2==0))=true)->(((((grQ x s0.2.2).2==6)=true)->(zcb ()))/\(((((grQ x s0.2.2).2==6)&&(zcE ())):Bool)=(zbb x))))/\(((!((grQ x s0.2.2).2==0))=false)->(((((decide ((((grQ x s0.2.2).1).1:Int)<0)||decide ((((grQ x s0.2.2).1).2:Int)<((grQ x s0.2.2).1).1))||decide (((x.1.2.1.length:Int):Int)<((grQ x s0.2.2).1).2))=true)->((false:Bool)=(zbb x)))/\((((decide ((((grQ x s0.2.2).1).1:Int)<0)||decide ((((grQ x s0.2.2).1).2:Int)<((grQ x s0.2.2).1).1))||decide (((x.1.2.1.length:Int):Int)<((grQ x s0.2.2).1).2))=false)->(Z.roomy 2 ((s0.2.1++((yaa 1 (0,0)).set 0 ((grQ x s0.2.2).1))).length:Int)/\((((0:Int)<=((grQ x s0.2.2).1).1/\(((grQ x s0.2.2).1).1:Int)<64)/\Z.in64 (2*2^(yby (((grQ x s0.2.2).1).1))))/\(Z.in64 ((2*2^(yby (((grQ x s0.2.2).1).1))) - 1)/\((((x.2.1.length:Int):Int)≠0)/\(((0:Int)<=(yel s0.2.2 (x.2.1.length:Int))/\((yel s0.2.2 (x.2.1.length:Int)):Int)<(x.2.1.length:Int))/\(((500:Int)≠0)/\(Z.roomy 2 ((s0.1++((yaa 1 (0,0)).set 0 (((2*2^(yby (((grQ x s0.2.2).1).1))) - 1),(yel (x.2.1.getD (yby (yel s0.2.2 (x.2.1.length:Int))) 0) 500)))).length:Int)/\(Z.in64 (s0.2.2+1)/\((((yaa (yby ((x.1.2.1.length:Int)+1)) (0:Int)):(List Int))=(yaa (yby ((x.1.2.1.length:Int)+1)) (0:Int)))/\(K0 ((s0.1++((yaa 1 (0,0)).set 0 (((2*2^(yby (((grQ x s0.2.2).1).1))) - 1),(yel (x.2.1.getD (yby (yel s0.2.2 (x.2.1.length:Int))) 0) 500)))),(s0.2.1++((yaa 1 (0,0)).set 0 ((grQ x s0.2.2).1))),(s0.2.2+1))))))))))))))))))/\((decide ((s0.2.2:Int)<x.1.2.2.1)=false)->Z.LoopP (X:=(Prod Int (List Int))) ((0,(yaa (yby ((x.1.2.1.length:Int)+1)) (0:Int)))) (fun s1 K1=>(((decide ((s1.1:Int)<((yaa (yby ((x.1.2.1.length:Int)+1)) (0:Int)).length:Int))=true)->(Z.in64 (s1.1+2)/\((((x.2.1.length:Int):Int)≠0)/\(((0:Int)<=(yel (s1.1+2) (x.2.1.length:Int))/\((yel (s1.1+2) (x.2.1.length:Int)):Int)<(x.2.1.length:Int))/\((((8:Int)≠0)/\Z.in64 (ydR (x.2.1.getD (yby (yel (s1.1+2) (x.2.1.length:Int))) 0) 8))/\(((6:Int)≠0)/\(((0:Int)<=s1.1/\(s1.1:Int)<(s1.2.length:Int))/\(Z.in64 (s1.1+1)/\(((s0.1:yZH)=s0.1)/\(((s0.2.1:yZH)=s0.2.1)/\(K1 ((s1.1+1),(s1.2.set (yby s1.1) (yel (ydR (x.2.1.getD (yby (yel (s1.1+2) (x.2.1.length:Int))) 0) 8) 6))))))))))))))/\((decide ((s1.1:Int)<((yaa (yby ((x.1.2.1.length:Int)+1)) (0:Int)).length:Int))=false)->(((0:Int)<=0/\(0:Int)<(s1.2.length:Int))/\(Z.in64 ((s1.2.getD (yby 0) 0)+1)/\(((0:Int)<=0/\(0:Int)<(s1.2.length:Int))/\(((40:Int)≠0)/\((zjd ((ndQ s1.2),s0.1,(nQ x)))/\((((!((flQ x s0.1 s1.2).2==0))=true)->((zjc ((ndQ s1.2),s0.1,(nQ x)))/\(((((((flQ x s0.1 s1.2).2==10)&&(((lkQ x s0.1 s1.2).2).2==0))&&decide ((0:Int)<((lkQ x s0.1 s1.2).2).1))=true)->(zhF (s0.1,(lkQ x s0.1 s1.2).1)))/\(((((((flQ x s0.1 s1.2).2==10)&&(((lkQ x s0.1 s1.2).2).2==0))&&decide ((0:Int)<((lkQ x s0.1 s1.2).2).1))=true)->(zfh ((ndQ s1.2),(lkQ x s0.1 s1.2).1)))/\(((((((flQ x s0.1 s1.2).2==10)&&(((lkQ x s0.1 s1.2).2).2==0))&&decide ((0:Int)<((lkQ x s0.1 s1.2).2).1))=true)->Z.in64 ((nQ x)*(zcW ((ndQ s1.2),(lkQ x s0.1 s1.2).1))))/\((((((((flQ x s0.1 s1.2).2==10)&&(((lkQ x s0.1 s1.2).2).2==0))&&decide ((0:Int)<((lkQ x s0.1 s1.2).2).1))&&decide (((zfJ (s0.1,(lkQ x s0.1 s1.2).1)):Int)<((nQ x)*(zcW ((ndQ s1.2),(lkQ x s0.1 s1.2).1)))))=true)->(zcb ()))/\((((((((flQ x s0.1 s1.2).2==10)&&(((lkQ x s0.1 s1.2).2).2==0))&&decide ((0:Int)<((lkQ x s0.1 s1.2).2).1))&&decide (((zfJ (s0.1,(lkQ x s0.1 s1.2).1)):Int)<((nQ x)*(zcW ((ndQ s1.2),(lkQ x s0.1 s1.2).1)))))&&(zcE ())):Bool)=(zbb x))))))))/\(((!((flQ x s0.1 s1.2).2==0))=false)->((((!((((flQ x s0.1 s1.2).1).length:Int)==(s0.1.length:Int)))=true)->((false:Bool)=(zbb x)))/\(((!((((flQ x s0.1 s1.2).1).length:Int)==(s0.1.length:Int)))=false)->((zcY (x.1,(x.1.2.2.2.length:Int)))/\((((!((tbQ x).2))=true)->((false:Bool)=(zbb x)))/\(((!((tbQ x).2))=false)->Z.LoopP (X:=Int) (0) (fun s2 K2=>(((decide ((s2:Int)<(((flQ x s0.1 s1.2).1).length:Int))=true)->(((0:Int)<=s2/\(s2:Int)<(((flQ x s0.1 s1.2).1).length:Int))/\((((!(((((flQ x s0.1 s1.2).1).getD (yby s2) []).length:Int)==((ndQ s1.2).length:Int)))=true)->((false:Bool)=(zbb x)))/\(((!(((((flQ x s0.1 s1.2).1).getD (yby s2) []).length:Int)==((ndQ s1.2).length:Int)))=false)->Z.LoopP (X:=Int) (0) (fun s3 K3=>(((decide ((s3:Int)<((((flQ x s0.1 s1.2).1).getD (yby s2) []).length:Int))=true)->(((0:Int)<=s3/\(s3:Int)<((((flQ x s0.1 s1.2).1).getD (yby s2) []).length:Int))/\((((((((flQ x s0.1 s1.2).1).getD (yby s2) []).getD (yby s3) 0)==0)=true)->(Z.in64 (s3+1)/\(((s0.1:yZH)=s0.1)/\(((s0.2.1:yZH)=s0.2.1)/\((((ndQ s1.2):(List Int))=(ndQ s1.2))/\(K3 (s3+1)))))))/\(((((((flQ x s0.1 s1.2).1).getD (yby s2) []).getD (yby s3) 0)==0)=false)->(((0:Int)<=s2/\(s2:Int)<(s0.2.1.length:Int))/\((((decide ((0:Int)<s3)=true)/\(decide (((s0.2.1.getD (yby s2) (0,0)).1:Int)<s3)=false))->Z.in64 (s3 - 1))/\((((decide ((0:Int)<s3)=true)/\(decide (((s0.2.1.getD (yby s2) (0,0)).1:Int)<s3)=false))->(zbu (x.1,(s3 - 1))))/\((((decide ((0:Int)<s3)=true)/\(decide (((s0.2.1.getD (yby s2) (0,0)).1:Int)<s3)=false))->((0:Int)<=(ref12u_Ref (x.1,(s3 - 1)))/\((ref12u_Ref (x.1,(s3 - 1))):Int)<(((tbQ x).1).length:Int)))/\((((decide ((0:Int)<s3)=true)/\(decide (((s0.2.1.getD (yby s2) (0,0)).1:Int)<s3)=false))->(zbr (x.1,s2)))/\((((decide ((0:Int)<s3)=true)/\(decide (((s0.2.1.getD (yby s2) (0,0)).1:Int)<s3)=false))->((0:Int)<=(ref12u_Sample (x.1,s2))/\((ref12u_Sample (x.1,s2)):Int)<((((tbQ x).1).getD (yby (ref12u_Ref (x.1,(s3 - 1)))) []).length:Int)))/\((((decide (((s0.2.1.getD (yby s2) (0,0)).1:Int)<s3)||(decide ((0:Int)<s3)&&decide ((0:Int)<((((tbQ x).1).getD (yby (ref12u_Ref (x.1,(s3 - 1)))) []).getD (yby (ref12u_Sample (x.1,s2))) 0))))=true)->((false:Bool)=(zbb x)))/\(((decide (((s0.2.1.getD (yby s2) (0,0)).1:Int)<s3)||(decide ((0:Int)<s3)&&decide ((0:Int)<((((tbQ x).1).getD (yby (ref12u_Ref (x.1,(s3 - 1)))) []).getD (yby (ref12u_Sample (x.1,s2))) 0))))=false)->Z.LoopP (X:=Int) (0) (fun s4 K4=>(((decide ((s4:Int)<(x.1.2.2.2.length:Int))=true)->(((0:Int)<=s4/\(s4:Int)<(x.1.2.2.2.length:Int))/\Z.LoopP (X:=Int) (0) (fun s5 K5=>(((decide ((s5:Int)<(x.1.2.2.2.length:Int))=true)->(((0:Int)<=s5/\(s5:Int)<(x.1.2.2.2.length:Int))/\((((((((((((ckQ x s4).2).1==1)&&((((ckQ x s4).2).2).1==s2))&&(((ckQ x s4).2).2).2)&&(((ckQ x s5).2).1==0))&&(!((((ckQ x s5).2).2).2)))&&decide (((ckQ x s4).1:Int)<=(ckQ x s5).1))&&decide (((((ckQ x s5).2).2).1:Int)<s3))=true)->((false:Bool)=(zbb x)))/\(((((((((((ckQ x s4).2).1==1)&&((((ckQ x s4).2).2).1==s2))&&(((ckQ x s4).2).2).2)&&(((ckQ x s5).2).1==0))&&(!((((ckQ x s5).2).2).2)))&&decide (((ckQ x s4).1:Int)<=(ckQ x s5).1))&&decide (((((ckQ x s5).2).2).1:Int)<s3))=false)->(Z.in64 (s5+1)/\(((s0.1:yZH)=s0.1)/\(((s0.2.1:yZH)=s0.2.1)/\((((ndQ s1.2):(List Int))=(ndQ s1.2))/\((((ckQ x s4):(Prod Int (Prod Int (Prod Int Bool))))=(ckQ x s4))/\(K5 (s5+1)))))))))))/\((decide ((s5:Int)<(x.1.2.2.2.length:Int))=false)->(Z.in64 (s4+1)/\(((s0.1:yZH)=s0.1)/\(((s0.2.1:yZH)=s0.2.1)/\((((ndQ s1.2):(List Int))=(ndQ s1.2))/\(K4 (s4+1)))))))))))/\((decide ((s4:Int)<(x.1.2.2.2.length:Int))=false)->(Z.in64 (s3+1)/\(((s0.1:yZH)=s0.1)/\(((s0.2.1:yZH)=s0.2.1)/\((((ndQ s1.2):(List Int))=(ndQ s1.2))/\(K3 (s3+1)))))))))))))))))))))/\((decide ((s3:Int)<((((flQ x s0.1 s1.2).1).getD (yby s2) []).length:Int))=false)->(Z.in64 (s2+1)/\(((s0.1:yZH)=s0.1)/\(((s0.2.1:yZH)=s0.2.1)/\((((ndQ s1.2):(List Int))=(ndQ s1.2))/\(K2 (s2+1)))))))))))))/\((decide ((s2:Int)<(((flQ x s0.1 s1.2).1).length:Int))=false)->((zcb ())/\(((zcE ()):Bool)=(zbb x)))))))))))))))))))))))))))))
theorem e5 (x:Ds k5.args):vcFun cx5 f5 k5 x=V5 x:=by kernel_rfl
end Go.Tt
/-
 TopFast: the statement's condition.
-/
namespace Go.Tt
open Go Go.Sx
theorem zjk:TabsOk prog TQ:=⟨by kernel_rfl,maps_ok⟩
theorem v28 (x:Unit) (_:k28.pre x):V28 x:=by
 refine ⟨⟨by decide,by decide,by decide⟩,trivial,by kernel_rfl⟩
theorem tm_bd {a b:Int} (h:0<=a) (hb:0<b):0<=yel a b/\yel a b<b:=⟨Int.tmod_nonneg _ h,Int.tmod_lt_of_pos _ hb⟩
def upTo (L:Nat):Int:=2*2^L - 1
theorem zlI (L:Nat):upTo L=((2^(L+1) - 1:Nat):Int):=by
 have h:0<2^(L+1):=yem (by decide)
 have e:(2*2^L:Int)=((2^(L+1):Nat):Int):=by
  rw [Nat.pow_succ,Int.natCast_mul,yen];simp
 rw [upTo,e];omega
theorem zoJ {L k:Nat}:hasB (upTo L) (k:Nat)=decide (k<=L):=by
 rw [hasB,zlI,ydt,ydt,Nat.testBit_two_pow_sub_one]
 refine zhm ?_
 rw [decide_eq_true_eq,decide_eq_true_eq];omega
theorem upTo_le {L n:Nat} (h:L<n):0<=upTo L/\upTo L<=allV n:=by
 have h1:2^(L+1)<=2^n:=ydx (by decide) (by omega)
 have h2:0<2^(L+1):=yem (by decide)
 rw [zlI,allV,pow_nat];omega
theorem sum_bdQ (s:Int) (l:List Int) (h:∀ a∈l,0<=a/\a<=48):0<=sumV s l/\sumV s l<=48*(l.length:Int):=by
 have key:∀ (l:List Int) (k:Nat),(∀ a∈l,0<=a/\a<=48)->0<=selS (fun k=>hasB s (k:Nat)) l k/\selS (fun k=>hasB s (k:Nat)) l k<=48*(l.length:Int):=by
  intro l
  induction l with
  | nil=>intro k _;simp [selS]
  | cons a l ih =>
   intro k h
   have h1:=ih (k+1) fun b hb=>h b (List.mem_cons_of_mem _ hb)
   have h2:=h a List.mem_cons_self
   rw [selS,List.length_cons]
   cases hasB s (k:Nat) with
   | true=>rw [cond_true];omega
   | false=>rw [cond_false];omega
 exact key l 0 h
structure SampQ (f:Fade.Fading) (b:Fade.Bds) (P:List Pile) (G:List (Int × Int)) (i:Nat):Prop where
 ex:∃ L:Nat,(G.getD i (0,0)).1=(L:Int)/\(P.getD i noP).1=upTo L/\L<=f.2.1.length/\∀ j,j<f.2.1.length->(Fade.gt b (13+j) (21+i)<=0↔j<L)
 many:0<=(P.getD i noP).2/\(P.getD i noP).2<=499
theorem snoc_at {α:Type} (l:List α) (d y:α):(l++[y]).getD l.length d=y:=by simp [yda]
theorem snoc_lt {α:Type} (l:List α) (d y:α) {i:Nat} (h:i<l.length):(l++[y]).getD i d=l.getD i d:=by simp [yda,List.getElem?_append,h]
theorem zob {f:Fade.Fading} {b:Fade.Bds} (O:Fade.OkC f) (hb:Fade.enterL Fade.noBounds (Fade.allL f)=some b) {i L k:Nat} (hi:(i:Int)<f.2.2.1) (hL:∀ j,j<f.2.1.length->(Fade.gt b (13+j) (21+i)<=0↔j<L)) (hk:k<=L)
  {c r:Fade.Check} (hc:c∈f.2.2.2) (hr:r∈f.2.2.2) (h:((((((c.2.1==1)&&(c.2.2.1==(i:Int)))&&c.2.2.2)&&(r.2.1==0))&&(!r.2.2.2))&&decide (c.1<=r.1))=true):¬ r.2.2.1<(k:Int):=by
 intro hlt
 simp only [yac,beq_iff_eq,decide_eq_true_eq,Bool.not_eq_true'] at h
 obtain ⟨⟨⟨⟨⟨c1,c2⟩,c3⟩,r1⟩,r2⟩,hm⟩:=h
 have hI:=(Fade.all_in O).2 b hb
 have T:=Fade.told O hb
 have tc:=T.chk c hc
 have tr:=T.chk r hr
 obtain ⟨⟨cm0,cm1⟩,_⟩:=O.checks c hc
 obtain ⟨⟨rm0,rm1⟩,rx⟩:=O.checks r hr
 rw [c3,c1,c2] at tc
 rw [r2,r1] at tr
 have tc:Fade.gt b (21+(i:Int)).toNat c.1.toNat<=0:=tc
 have tr:Fade.gt b r.1.toNat (13+r.2.2.1).toNat<=-1:=tr
 rw [r1] at rx
 have rx:0<=r.2.2.1/\r.2.2.1<(f.2.1.length:Int):=by
  rcases rx with rx | rx
  ·exact rx.2
  ·exact absurd rx.1 (by decide)
 have hmm:=T.mono c.1.toNat r.1.toNat (by omega) (by omega)
 rw [show (21+(i:Int)).toNat=21+i by omega] at tc
 obtain ⟨q,hq⟩:∃ q:Nat,r.2.2.1=(q:Int):=⟨r.2.2.1.toNat,by omega⟩
 rw [hq] at tr hlt rx
 rw [show (13+(q:Int)).toNat=13+q by omega] at tr
 have g:=(hL q (by omega)).2 (by omega)
 have kc:Fade.known f c.1.toNat:=.inl (by omega)
 have kr:Fade.known f r.1.toNat:=.inl (by omega)
 have ks:Fade.known f (21+i):=.inr (.inr (by omega))
 have kq:Fade.known f (13+q):=.inr (.inl (by omega))
 have t1:=hI.tri (21+i) c.1.toNat r.1.toNat ks kc kr
 have t2:=hI.tri (21+i) r.1.toNat (13+q) ks kr kq
 have t3:=hI.tri (21+i) (13+q) (21+i) ks kq ks
 have t4:=hI.dg (21+i) (hI.lt _ ks)
 omega
theorem v5 (x:FastIn) (hp:k5.pre x):V5 x:=by
 obtain ⟨⟨hsz,hby⟩,hx0,hx1⟩:(Fade.sizeP x.1/\(∀ b∈x.2.1,(0:Int)<=b/\b<=65535))/\(0:Int)<=x.2.2/\x.2.2<=255:=hp
 refine ⟨fun _=>hsz,fun _=>⟨trivial,rfl⟩,fun hg=>?_⟩
 rw [yeo,yeo,yeo] at hg
 have hy:x.2.1.length≠0:=by have:=hg.1.1.1;intro e;rw [e] at this;cases this
 have hR:x.1.2.1.length<=7:=by have:=of_decide_eq_false hg.1.1.2;omega
 have hC:Fade.cardsB x.1=true:=not_iff.2.1 hg.1.2
 have hS:x.1.2.2.1≠0:=fun e=>by have:=hg.2;rw [e] at this;cases this
 clear hg
 have O:=Fade.cards_iff.1 hC
 obtain ⟨⟨F1,F2,S,F4⟩,by_,bx⟩:=x
 dsimp only at hsz hby hx0 hx1 hy hR hC hS O
 have hM:=O.nm
 have hS0:=O.ns
 have hnc:=O.nc
 dsimp only at hM hS0 hnc
 obtain ⟨s',rfl⟩:∃ s':Nat,S=(s':Int):=⟨S.toNat,by omega⟩
 have hyb:∀ i:Int,0<=i->0<=by_.getD (yby (yel i (by_.length:Int))) 0/\by_.getD (yby (yel i (by_.length:Int))) 0<=65535:=fun i hi=>by
  have:=tm_bd hi (b:=(by_.length:Int)) (by omega)
  exact hby _ (zao _ 0 _ (by omega))
 refine ⟨by show Z.in64 ((F2.length:Int)+1);simp only [Z.in64];omega,⟨⟨by show (0:Int)<=(F2.length:Int)+1;omega,Int.le_refl _⟩,by show Z.roomy 1 ((F2.length:Int)+1);simp only [Z.roomy];omega⟩,?_⟩
 cases hb:Fade.enterL Fade.noBounds (Fade.allL (F1,F2,(s':Int),F4)) with
 | none =>
  refine ⟨fun t=>t.2.2=0,fun _=>0,rfl,?_⟩
  rintro ⟨p,g,k⟩ hk
  simp only at hk
  subst hk
  have hgr:Fade.fade_Grade ((F1,F2,(s':Int),F4),0)=((0,0),6):=by
   show Fade.gradeV _ _=_
   rw [Fade.gradeV,show Fade.inB 0 0 (Fade.less1 (F1,F2,(s':Int),F4).2.2.1)=true from by
    rw [show Fade.less1 (F1,F2,(s':Int),F4).2.2.1=(s':Int) - 1 from wrap_in (by show Z.in64 ((s':Int) - 1);simp only [Z.in64];omega)]
    exact Fade.inB_iff.2 ⟨by omega,by omega⟩]
   simp only [Fade.open_cards hC,hb];rfl
  refine ⟨fun _=>⟨hsz,fun _=>?_,fun h=>?_⟩,fun h=>?_⟩
  ·simp only [grQ,hgr]
   exact ⟨fun _=>trivial,rfl⟩
  ·simp only [grQ,hgr] at h
   cases h
  ·have h:¬ (0:Int)<(s':Int):=of_decide_eq_false h
   omega
 | some b =>
 refine ⟨fun t=>∃ k:Nat,t.2.2=(k:Int)/\k<=s'/\t.1.length=k/\t.2.1.length=k/\∀ i,i<k->SampQ (F1,F2,(s':Int),F4) b t.1 t.2.1 i,fun t=>((s':Int) - t.2.2).toNat,⟨0,rfl,ybr _,rfl,rfl,fun i hi=>absurd hi (by omega)⟩,?_⟩
 rintro ⟨P,G,k'⟩ ⟨k,ek,hk,hPl,hGl,hI⟩
 simp only at ek hPl hGl hI
 subst ek
 refine ⟨fun hlt=>?_,fun hlt=>?_⟩
 ·have hlt:(k:Int)<(s':Int):=of_decide_eq_true hlt
  obtain ⟨L,H,hgr,hLH,hHR,hL1,hH1⟩:=Fade.grade_thr O hb (a:=k) hlt
  have hgr:grQ ((F1,F2,(s':Int),F4),by_,bx) (k:Int)=(((L:Int),(H:Int)),0):=hgr
  have hLH:L<=H:=hLH
  have hHR:H<=F2.length:=hHR
  have hpw:(2:Int)^L<=2^7:=by
   have:(2:Nat)^L<=2^7:=ydx (by decide) (by omega)
   rw [pow_nat,show (2:Int)^7=((2^7:Nat):Int) from rfl];omega
  have hpw0:0<(2:Int)^L:=Int.pow_pos (by decide)
  simp only [hgr,ydt]
  refine ⟨hsz,fun h=>absurd h (by decide),fun _=>⟨fun h=>?_,fun _=>?_⟩⟩
  ·exfalso
   simp only [yaE,decide_eq_true_eq] at h
   omega
  have htm:=tm_bd (a:=(k:Int)) (b:=(by_.length:Int)) (by omega) (by omega)
  have hyk:=hyb (k:Int) (by omega)
  have ht5:=tm_bd (b:=500) hyk.1 (by decide)
  refine ⟨?_,⟨⟨by omega,by omega⟩,by simp only [Z.in64];omega⟩,by simp only [Z.in64];omega,by show (by_.length:Int)≠0;omega,htm,by decide,?_,by simp only [Z.in64];omega,by first | rfl | trivial,⟨k+1,rfl,by omega,?_,?_,fun i hi=>?_⟩,?_⟩
  ·simp only [Z.roomy,yao,ybV,ydY,hGl];omega
  ·simp only [Z.roomy,yao,ybV,ydY,hPl];omega
  ·simp [hPl]
  ·simp [hGl]
  ·by_cases e:i=k
   ·subst e
    have eP:(P++[(2*2^L - 1,yel (by_.getD (yby (yel (i:Int) (by_.length:Int))) 0) 500)]).getD i noP=(2*2^L - 1,yel (by_.getD (yby (yel (i:Int) (by_.length:Int))) 0) 500):=by
     have:=snoc_at P noP (2*2^L - 1,yel (by_.getD (yby (yel (i:Int) (by_.length:Int))) 0) 500)
     rw [hPl] at this;exact this
    have eG:(G++[((L:Int),(H:Int))]).getD i (0,0)=((L:Int),(H:Int)):=by
     have:=snoc_at G (0,0) ((L:Int),(H:Int))
     rw [hGl] at this;exact this
    refine ⟨⟨L,congrArg Prod.fst eG,congrArg Prod.fst eP,by show L<=F2.length;omega,hL1⟩,?_⟩
    show 0<=((P++[_]).getD i noP).2/\((P++[_]).getD i noP).2<=499
    rw [eP]
    show 0<=yel _ 500/\yel _ 500<=499
    omega
   ·obtain ⟨⟨L',h1,h2,h3⟩,h4⟩:=hI i (by omega)
    refine ⟨⟨L',?_,?_,h3⟩,?_⟩
    ·show ((G++[_]).getD i (0,0)).1=_
     rw [snoc_lt _ _ _ (by omega)];exact h1
    ·show ((P++[_]).getD i noP).1=_
     rw [snoc_lt _ _ _ (by omega)];exact h2
    ·show 0<=((P++[_]).getD i noP).2/\((P++[_]).getD i noP).2<=499
     rw [snoc_lt _ _ _ (by omega)];exact h4
  ·show ((s':Int) - ((k:Int)+1)).toNat<((s':Int) - (k:Int)).toNat
   omega
 have hlt:¬ (k:Int)<(s':Int):=of_decide_eq_false hlt
 have:s'=k:=by omega
 subst this
 have hrl:(yaa (yby ((F2.length:Int)+1)) (0:Int)).length=F2.length+1:=by rw [ydY];omega
 refine ⟨fun t=>∃ j:Nat,t.1=(j:Int)/\j<=F2.length+1/\t.2.length=F2.length+1/\∀ n∈t.2,0<=n/\n<=5,fun t=>((F2.length:Int)+1 - t.1).toNat,⟨0,rfl,ybr _,hrl,fun n hn=>?_⟩,?_⟩
 ·rw [List.eq_of_mem_replicate hn];omega
 rintro ⟨j',nd⟩ ⟨j,ej,hj,hnl,hn⟩
 simp only at ej hnl hn
 subst ej
 refine ⟨fun hlt=>?_,fun hlt=>?_⟩
 ·have hlt:(j:Int)<((yaa (yby ((F2.length:Int)+1)) (0:Int)).length:Int):=of_decide_eq_true hlt
  rw [hrl] at hlt
  have htm:=tm_bd (a:=(j:Int)+2) (b:=(by_.length:Int)) (by omega) (by omega)
  have hyk:=hyb ((j:Int)+2) (by omega)
  have hd:0<=ydR (by_.getD (yby (yel ((j:Int)+2) (by_.length:Int))) 0) 8/\ydR (by_.getD (yby (yel ((j:Int)+2) (by_.length:Int))) 0) 8<=65535:=by
   rw [Int.tdiv_eq_ediv_of_nonneg hyk.1];omega
  have ht6:=tm_bd (b:=6) hd.1 (by decide)
  refine ⟨by simp only [Z.in64];omega,by show (by_.length:Int)≠0;omega,htm,⟨by decide,by simp only [Z.in64];exact ⟨by omega,by omega⟩⟩,by decide,⟨by omega,by show (j:Int)<(nd.length:Int);omega⟩,by simp only [Z.in64];omega,by first | rfl | trivial,by first | rfl | trivial,⟨j+1,rfl,by omega,?_,fun n hn'=>?_⟩,?_⟩
  ·show (nd.set _ _).length=_
   rw [ybV];exact hnl
  ·rcases yep hn' with h | h
   ·exact hn n h
   ·rw [h]
    have h2:=ht6.2
    exact ⟨ht6.1,by show yel (ydR (by_.getD (yby (yel ((j:Int)+2) (by_.length:Int))) 0) 8) 6<=5;omega⟩
  ·show ((F2.length:Int)+1 - ((j:Int)+1)).toNat<((F2.length:Int)+1 - (j:Int)).toNat
   omega
 clear hlt
 have hn0:=hn _ (zao nd 0 0 (by omega))
 have hnl1:(0:Int)<(nd.length:Int):=by omega
 have hbox:BoxIs (ndQ nd) P:=by
  have hl:(ndQ nd).length=F2.length+1:=by rw [ndQ,ybV];exact hnl
  refine ⟨by omega,by omega,by omega,fun n hn'=>?_,fun p hp=>?_,?_⟩
  ·rcases yep hn' with h | h
   ·have:=hn n h;omega
   ·rw [h]
    show 0<=nd.getD 0 0+1/\nd.getD 0 0+1<=48
    omega
  ·obtain ⟨i,hi,rfl⟩:=yeq.1 hp
   obtain ⟨⟨L,_,h2,h3,_⟩,h4⟩:=hI i (by omega)
   have e:P.getD i noP=P[i]:=by simp [yda,hi]
   rw [e] at h2 h4
   have h3:L<=F2.length:=h3
   rw [h2,hl]
   exact ⟨upTo_le (by omega),h4.1,by simp only [topN];omega⟩
  ·refine ⟨nd.getD 0 0+1,?_,by omega⟩
   refine yeq.2 ⟨0,by omega,?_⟩
   simp [ndQ]
 have hn40:=tm_bd (b:=40) hx0 (by decide)
 have hnl2:(ndQ nd).length=F2.length+1:=by rw [ndQ,ybV];exact hnl
 refine ⟨⟨by decide,hnl1⟩,by show Z.in64 (nd.getD 0 0+1);simp only [Z.in64];omega,⟨by decide,hnl1⟩,by decide,trivial,fun h=>?_,fun h=>?_⟩
 ·have hchk:(zak (ndQ nd,P,yel bx 40)==0)=true:=by
   rw [zak,box_iff.2 hbox,show inB (yel bx 40) 0 topN=true from inB_iff.2 ⟨hn40.1,by simp only [topN];omega⟩];rfl
  have hL:=zpj (timesV (ndQ nd) (yel bx 40)) P
  have hLk:zbF (ndQ nd,P,yel bx 40)=cond ((lackB (timesV (ndQ nd) (yel bx 40)) P).2==0) (0,0,4) ((lackB (timesV (ndQ nd) (yel bx 40)) P).1,(lackB (timesV (ndQ nd) (yel bx 40)) P).2,0):=by
   rw [zbF,hchk];rfl
  have hFl:zaK (ndQ nd,P,yel bx 40)=([],10)/\(lackB (timesV (ndQ nd) (yel bx 40)) P).2≠0:=by
   have h:((zaK (ndQ nd,P,yel bx 40)).2==0)=false:=not_iff.1.1 h
   rw [zaK,hchk,cond_true] at h ⊢
   cases hc:canF (timesV (ndQ nd) (yel bx 40)) P with
   | true=>rw [hc] at h;cases h
   | false =>
    rw [canF] at hc
    exact ⟨rfl,fun e=>by rw [e] at hc;cases hc⟩
  obtain ⟨hF,hne⟩:=hFl
  have hF:flQ ((F1,F2,(s':Int),F4),by_,bx) P nd=([],10):=hF
  generalize lackB (timesV (ndQ nd) (yel bx 40)) P=W at hL hLk hne
  have hw:(W.2==0)=false:=by rw [beq_eq_false_iff_ne];exact hne
  have hLk:lkQ ((F1,F2,(s':Int),F4),by_,bx) P nd=(W.1,W.2,0):=by
   show zbF _=_
   rw [hLk,hw];rfl
  have hpos:0<W.2:=by have:=hL.nn;omega
  rcases hL.atw with e | ⟨hm,hd⟩
  ·exact absurd e hne
  have hm':W.1∈setsV (ndQ nd).length:=by rw [<-zhx (ndQ nd) (yel bx 40)];exact hm
  have hsm:smallSet W.1:=zgj (by omega) hm'
  have hlt:haveV P W.1<yel bx 40*sumV W.1 (ndQ nd):=by
   have:=hd
   rw [lacksV,znA,yen] at this
   omega
  have hsb:0<=yel bx 40*sumV W.1 (ndQ nd)/\yel bx 40*sumV W.1 (ndQ nd)<=39*440:=by
   have:=sum_bdQ W.1 (ndQ nd) hbox.nd
   have h8:=hbox.n8
   exact mul_bd ⟨hn40.1,by omega⟩ ⟨this.1,by omega⟩
  have hok:BoxOk (ndQ nd) P:=⟨hbox.n8,hbox.l8,fun n hn'=>by have:=hbox.nd n hn';simp only [most40];omega,hbox.small⟩
  simp only [hF,hLk]
  refine ⟨trivial,fun _=>⟨hok.l8,hok.pile,hsm⟩,fun _=>⟨hok.n8,hok.need,hsm⟩,fun _=>?_,fun _=>trivial,?_⟩
  ·show Z.in64 (yel bx 40*sumV W.1 (ndQ nd))
   simp only [Z.in64];omega
  ·show ((((((10:Int)==10)&&((0:Int)==0))&&decide (0<W.2))&&decide (haveV P W.1<yel bx 40*sumV W.1 (ndQ nd)))&&true)=true
   rw [decide_eq_true hpos,decide_eq_true hlt];rfl
 have h:((zaK (ndQ nd,P,yel bx 40)).2==0)=true:=not_iff.2.1 h
 have hcan:canF (timesV (ndQ nd) (yel bx 40)) P=true:=by
  cases hc:canF (timesV (ndQ nd) (yel bx 40)) P with
  | true=>rfl
  | false =>
   rw [zaK,hc] at h
   cases hk:zak (ndQ nd,P,yel bx 40)==0 with
   | true=>rw [hk] at h;cases h
   | false=>rw [hk] at h;exact absurd (h.symm.trans hk) (by decide)
 obtain ⟨f1,f2,f3⟩:=fill_is (x:=(ndQ nd,P,yel bx 40)) hbox hn40.1 (by simp only [topN];omega) hcan
 have f1:(flQ ((F1,F2,(s':Int),F4),by_,bx) P nd).2=0:=f1
 generalize hFV:flQ ((F1,F2,(s':Int),F4),by_,bx) P nd=FV
 rw [show zaK (ndQ nd,P,yel bx 40)=FV from hFV] at f2 f3
 have f2:FV.1.length=P.length:=f2
 have f3:∀ i k:Nat,i<P.length->(FV.1.getD i []).length=(ndQ nd).length/\((FV.1.getD i []).getD k 0≠0->hasB (P.getD i noP).1 (k:Nat)=true):=f3
 refine ⟨fun hb'=>?_,fun _=>?_⟩
 ·exfalso
  rw [f2] at hb';simp at hb'
 have htb:tbQ ((F1,F2,(s':Int),F4),by_,bx)=(Fade.tabOf (F1,F2,(s':Int),F4) b,true):=by
  show Fade.tableV _ _=_
  rw [Fade.tableV]
  show (match Fade.enterL Fade.noBounds (Fade.allL (Fade.cutF (F1,F2,(s':Int),F4) (F1,F2,(s':Int),F4).2.2.2.length)) with | none=>([],false) | some b=>(Fade.tabOf (F1,F2,(s':Int),F4) b,true))=_
  rw [Fade.cut_all,hb]
 have hsq:=Fade.tab_sq (f:=(F1,F2,(s':Int),F4)) b
 have hsn:Fade.sizeN (F1,F2,(s':Int),F4)=1+F1.length+F2.length+s':=by rw [Fade.sizeN];simp
 rw [hsn] at hsq
 refine ⟨Fade.tableP hC,fun hb'=>?_,fun _=>?_⟩
 ·exfalso
  rw [htb] at hb';cases hb'
 refine ⟨fun t=>∃ i:Nat,t=(i:Int)/\i<=P.length,fun t=>((P.length:Int) - t).toNat,⟨0,rfl,by omega⟩,?_⟩
 rintro t ⟨i,rfl,hi⟩
 refine ⟨fun hlt=>?_,fun hlt=>⟨trivial,rfl⟩⟩
 have hlt:=of_decide_eq_true hlt
 rw [f2] at hlt
 have hil:i<P.length:=by omega
 have hrow:=(f3 i 0 hil).1
 obtain ⟨⟨L,g1,g2,g3,g4⟩,_⟩:=hI i (by omega)
 simp only [ydt]
 refine ⟨⟨by omega,by rw [f2];exact hlt⟩,fun hb'=>?_,fun _=>?_⟩
 ·exfalso
  rw [hrow] at hb';simp at hb'
 refine ⟨fun t=>∃ k:Nat,t=(k:Int)/\k<=F2.length+1,fun t=>((F2.length:Int)+1 - t).toNat,⟨0,rfl,by omega⟩,?_⟩
 rintro t ⟨k,rfl,hk⟩
 refine ⟨fun hlt2=>?_,fun hlt2=>?_⟩
 ·have hlt2:=of_decide_eq_true hlt2
  rw [hrow,hnl2] at hlt2
  have hko:k<F2.length+1:=by omega
  have step:∀ Q:Prop,Q->(Q/\((F2.length:Int)+1 - ((k:Int)+1)).toNat<((F2.length:Int)+1 - (k:Int)).toNat):=fun Q q=>⟨q,by omega⟩
  simp only [ydt]
  refine ⟨⟨by omega,by rw [hrow,hnl2];exact hlt2⟩,fun _=>⟨by simp only [Z.in64];omega,by first | rfl | trivial,by first | rfl | trivial,by first | rfl | trivial,⟨k+1,rfl,hko⟩,?_⟩,fun hz=>?_⟩
  ·show ((F2.length:Int)+1 - ((k:Int)+1)).toNat<((F2.length:Int)+1 - (k:Int)).toNat
   omega
  have hcl:k<=L:=by
   have:=(f3 i k hil).2 (by rw [beq_eq_false_iff_ne] at hz;exact hz)
   rw [g2,zoJ] at this
   exact of_decide_eq_true this
  have hz1:(0:Int)<(k:Int)->Fade.ref12u_Ref ((F1,F2,(s':Int),F4),(k:Int) - 1)=((1+F1.length+(k - 1):Nat):Int):=fun h=>by
   show (1+(F1.length:Int))+((k:Int) - 1)=_
   omega
  have hz2:Fade.ref12u_Sample ((F1,F2,(s':Int),F4),(i:Int))=((1+F1.length+F2.length+i:Nat):Int):=by
   show ((1+(F1.length:Int))+(F2.length:Int))+(i:Int)=_
   omega
  have hTl:(tbQ ((F1,F2,(s':Int),F4),by_,bx)).1.length=1+F1.length+F2.length+s':=by rw [htb];exact hsq.len
  have hTr:(0:Int)<(k:Int)->((tbQ ((F1,F2,(s':Int),F4),by_,bx)).1.getD (yby (Fade.ref12u_Ref ((F1,F2,(s':Int),F4),(k:Int) - 1))) []).length=1+F1.length+F2.length+s':=fun h=>by
   rw [htb,hz1 h,ydt];exact hsq.row _ (by omega)
  have pos:(decide ((0:Int)<(k:Int))=true)/\(decide ((G.getD i (0,0)).1<(k:Int))=false)->(0:Int)<(k:Int):=fun h=>of_decide_eq_true h.1
  refine ⟨⟨by omega,by omega⟩,fun _=>by simp only [Z.in64];omega,fun h=>⟨by show F1.length<=100;omega,by show (-1000:Int)<=(k:Int) - 1;omega,by show (k:Int) - 1<=1000;omega⟩,fun h=>?_,fun h=>⟨⟨by show F1.length<=100;omega,by show F2.length<=100;omega⟩,by show (-1000:Int)<=(i:Int);omega,by show (i:Int)<=1000;omega⟩,fun h=>?_,fun hb'=>?_,fun _=>?_⟩
  ·have:=pos h
   rw [hz1 this,hTl];omega
  ·have:=pos h
   rw [hTr this,hz2];omega
  ·exfalso
   rw [yaE] at hb'
   rcases hb' with hb' | hb'
   ·have hlk:(G.getD i (0,0)).1<(k:Int):=of_decide_eq_true hb'
    rw [g1] at hlk;omega
   ·rw [yac] at hb'
    have hk0:=of_decide_eq_true hb'.1
    have hgt:=of_decide_eq_true hb'.2
    rw [hz1 hk0,hz2,htb] at hgt
    have he:=Fade.ent_tab (f:=(F1,F2,(s':Int),F4)) (b:=b) (a:=1+F1.length+(k - 1)) (c:=1+F1.length+F2.length+i) (by rw [hsn];omega) (by rw [hsn];omega)
    have p1:Fade.ptN (F1,F2,(s':Int),F4) (1+F1.length+(k - 1))=13+(k - 1):=by
     rw [Fade.ptN]
     show (if 1+F1.length+(k - 1)<=F1.length then _ else if 1+F1.length+(k - 1)<=F1.length+F2.length then 13+(1+F1.length+(k - 1) - F1.length - 1) else _)=_
     rw [if_neg (by omega),if_pos (by omega)];omega
    have p2:Fade.ptN (F1,F2,(s':Int),F4) (1+F1.length+F2.length+i)=21+i:=by
     rw [Fade.ptN]
     show (if 1+F1.length+F2.length+i<=F1.length then _ else if 1+F1.length+F2.length+i<=F1.length+F2.length then _ else 21+(1+F1.length+F2.length+i - F1.length - F2.length - 1))=_
     rw [if_neg (by omega),if_neg (by omega)];omega
    rw [p1,p2] at he
    have hent:(0:Int)<Fade.ent (Fade.tabOf (F1,F2,(s':Int),F4) b) ((1+F1.length+(k - 1):Nat):Int) ((1+F1.length+F2.length+i:Nat):Int):=hgt
    rw [he] at hent
    have:=(g4 (k - 1) (by show k - 1<F2.length;omega)).2 (by omega)
    omega
  refine ⟨fun t=>∃ c:Nat,t=(c:Int)/\c<=F4.length,fun t=>((F4.length:Int) - t).toNat,⟨0,rfl,by omega⟩,?_⟩
  rintro t ⟨c,rfl,hc⟩
  refine ⟨fun hlt3=>?_,fun hlt3=>?_⟩
  ·have hlt3:(c:Int)<(F4.length:Int):=of_decide_eq_true hlt3
   have hcl4:c<F4.length:=by omega
   refine ⟨⟨by omega,hlt3⟩,fun t=>∃ r:Nat,t=(r:Int)/\r<=F4.length,fun t=>((F4.length:Int) - t).toNat,⟨0,rfl,by omega⟩,?_⟩
   rintro t ⟨r,rfl,hr⟩
   refine ⟨fun hlt4=>?_,fun hlt4=>?_⟩
   ·have hlt4:(r:Int)<(F4.length:Int):=of_decide_eq_true hlt4
    have hrl4:r<F4.length:=by omega
    refine ⟨⟨by omega,hlt4⟩,fun hb'=>?_,fun _=>⟨by simp only [Z.in64];omega,by first | rfl | trivial,by first | rfl | trivial,by first | rfl | trivial,by first | rfl | trivial,⟨r+1,rfl,hrl4⟩,?_⟩⟩
    ·exfalso
     rw [yac] at hb'
     exact zob (f:=(F1,F2,(s':Int),F4)) O hb (i:=i) (by show (i:Int)<(s':Int);omega) g4 hcl (zao F4 (0,0,0,false) c hcl4) (zao F4 (0,0,0,false) r hrl4) hb'.1 (of_decide_eq_true hb'.2)
    ·show ((F4.length:Int) - ((r:Int)+1)).toNat<((F4.length:Int) - (r:Int)).toNat
     omega
   ·exact ⟨by simp only [Z.in64];omega,by first | rfl | trivial,by first | rfl | trivial,by first | rfl | trivial,⟨c+1,rfl,hcl4⟩,by show ((F4.length:Int) - ((c:Int)+1)).toNat<((F4.length:Int) - (c:Int)).toNat;omega⟩
  ·exact ⟨by simp only [Z.in64];omega,by first | rfl | trivial,by first | rfl | trivial,by first | rfl | trivial,⟨k+1,rfl,hko⟩,by show ((F2.length:Int)+1 - ((k:Int)+1)).toNat<((F2.length:Int)+1 - (k:Int)).toNat;omega⟩
 ·exact ⟨by simp only [Z.in64];omega,by first | rfl | trivial,by first | rfl | trivial,by first | rfl | trivial,⟨i+1,rfl,hil⟩,by show ((P.length:Int) - ((i:Int)+1)).toNat<((P.length:Int) - (i:Int)).toNat;omega⟩
end Go.Tt
