/- Written by a program of mine (wip/tools/gen.py): contexts and conditions of functions. -/
import Derived.Test.YtdhdklojcppfcaaTtMix
import Derived.Test.YtdhdklojcppfcaaProg
set_option linter.all false
set_option maxRecDepth 100000
set_option maxHeartbeats 4000000
open Bool renaming and_assoc->ydE,and_eq_true->yac,not_and->ydF,or_assoc->ydG
open Int renaming ediv_nonneg->yaX,eq_ofNat_of_zero_le->ydz,fdiv->ydy,fdiv_eq_ediv_of_nonneg->yaS,le_of_lt->yaT,le_trans->yaV,one_mul->ydD,pow_pos->yaR,toNat->yby,toNat_natCast->ydx
open List renaming cons_append->yaC,filter_append->ydH,getD->ydd,length_append->yao,length_cons->ybU,length_map->ycL,length_take->ybo,mem_cons_of_mem->yal,mem_cons_self->yam,mem_map->ycq,replicate->yaa,take_of_length_le->ybT,take_succ_eq_append_getElem->ydA
open Nat renaming pow_le_pow_right->ydC,pow_succ->ydB
open Go.Proofs.Try
namespace Go.Tt
open Go Go.Sx
def T:Tabs:={
 tyL:=[(3,I),(4,.bo),(5,(.i .u8)),(31,(.st (.p I I))),(36,I),(45,(.i .u32)),(56,(.sl I)),(70,(.sl (.sl I))),(91,(.sl (.st (.p I (.p I (.p I I)))))),(92,(.sl (.st (.p I (.p (.st (.p I I)) (.st (.p I I))))))),(94,(.st (.p (.sl (.st (.p I (.p (.st (.p I I)) (.st (.p I I)))))) (.sl (.st (.p I (.p I (.p I I)))))))),(98,(.st (.p I (.p (.st (.p I I)) (.st (.p I I)))))),(100,(.st (.p I (.p I (.p I I))))),(132,(.f2 I I I)),(135,(.f1 I .bo)),(156,(.f1 I I)),(158,(.arr 8 I)),(159,(.arr 8 (.arr 8 I))),(175,(.rn (.st (.p (.sl I) (.p (.sl I) (.sl I)))))),(178,(.st .u)),(179,I),(180,(.arr 8 I)),(182,(.st (.p (.rn (.st (.p (.sl I) (.p (.sl I) (.sl I))))) (.p (.arr 8 (.arr 8 I)) (.p (.arr 8 I) I))))),(183,(.sl I)),(185,(.st (.p (.sl I) (.p (.sl I) (.sl I))))),(186,(.ref (.st (.p (.rn (.st (.p (.sl I) (.p (.sl I) (.sl I))))) (.p (.arr 8 (.arr 8 I)) (.p (.arr 8 I) I)))))),(189,(.st (.p I I))),(190,(.sq false I)),(191,(.sq false I)),(196,(.st .u)),(197,(.sl (.im "pencilworks/order.many" (.st (.p I (.p (.st (.p I I)) (.st (.p I I))))) I (.im "pencilworks/order.ready" (.st (.p I (.p (.st (.p I I)) (.st (.p I I))))) I .u)))),(199,(.im "pencilworks/order.many" (.st (.p I (.p (.st (.p I I)) (.st (.p I I))))) I (.im "pencilworks/order.ready" (.st (.p I (.p (.st (.p I I)) (.st (.p I I))))) I .u))),(200,(.f1 I .bo)),(212,(.f1 (.st (.p I (.p I (.p I I)))) I)),(222,(.i .u64)),(244,(.f1 (.st (.p I (.p (.st (.p I I)) (.st (.p I I))))) .bo)),(245,(.f1 (.st (.p I (.p I (.p I I)))) .bo)),(249,(.mp I .bo)),(305,(.i .u64))],
 elL:=[(56,3),(70,56),(91,100),(92,98),(183,179),(197,199)],
 oneL:=[56,91,92,175,183,249],
 mtyL:=[(122,(3,221)),(123,(3,221)),(147,(153,3)),(148,(153,3)),(249,(3,4)),(282,(4,281))],
 mthL:=[((178, "pencilworks/order.many"),251),((178, "pencilworks/order.ready"),252),((196, "pencilworks/order.many"),253),((196, "pencilworks/order.ready"),254)] }
def k155:Con:={ args:=[I,I,I],res:=[.bo],pre:=zbO,val:=zav }
def k156:Con:={ args:=[(.st (.p I I)),I,I],res:=[.bo],pre:=zdL,val:=zbW }
def k154:Con:={ args:=[(.st (.p I (.p (.st (.p I I)) (.st (.p I I)))))],res:=[.bo],pre:=zcd,val:=zbP }
def k157:Con:={ args:=[(.st (.p I (.p I (.p I I))))],res:=[.bo],pre:=zcK,val:=zck }
def k193:Con:={ args:=[(.sl (.st (.p I (.p (.st (.p I I)) (.st (.p I I)))))),(.f1 (.st (.p I (.p (.st (.p I I)) (.st (.p I I))))) .bo)],res:=[I],pre:=zb,val:=zaq }
def k158:Con:={ args:=[(.sl (.st (.p I (.p (.st (.p I I)) (.st (.p I I)))))),(.f1 (.st (.p I (.p (.st (.p I I)) (.st (.p I I))))) .bo)],res:=[.bo],pre:=zaQ,val:=zak }
def k194:Con:={ args:=[(.sl (.st (.p I (.p I (.p I I))))),(.f1 (.st (.p I (.p I (.p I I)))) .bo)],res:=[I],pre:=zbg,val:=zar }
def k159:Con:={ args:=[(.sl (.st (.p I (.p I (.p I I))))),(.f1 (.st (.p I (.p I (.p I I)))) .bo)],res:=[.bo],pre:=zaW,val:=zaB }
def k100:Con:={ args:=[(.st (.p (.sl (.st (.p I (.p (.st (.p I I)) (.st (.p I I)))))) (.sl (.st (.p I (.p I (.p I I)))))))],res:=[.bo],pre:=zdM,val:=zcr }
def k251:Con:={ args:=[(.st .u),(.st (.p I (.p (.st (.p I I)) (.st (.p I I)))))],res:=[I],pre:=zdA,val:=zcX }
def k252:Con:={ args:=[(.st .u),(.st (.p I (.p (.st (.p I I)) (.st (.p I I)))))],res:=[I],pre:=zdk,val:=zcH }
def k253:Con:={ args:=[(.st .u),(.st (.p I (.p (.st (.p I I)) (.st (.p I I)))))],res:=[I],pre:=zdX,val:=zdl }
def k254:Con:={ args:=[(.st .u),(.st (.p I (.p (.st (.p I I)) (.st (.p I I)))))],res:=[I],pre:=zdB,val:=zcY }
def k101:Con:={ args:=[(.st (.p (.sl (.st (.p I (.p (.st (.p I I)) (.st (.p I I)))))) (.sl (.st (.p I (.p I (.p I I))))))),(.im "pencilworks/order.many" (.st (.p I (.p (.st (.p I I)) (.st (.p I I))))) I (.im "pencilworks/order.ready" (.st (.p I (.p (.st (.p I I)) (.st (.p I I))))) I .u))],res:=[(.rn (.st (.p (.sl I) (.p (.sl I) (.sl I)))))],pre:=zcJ,val:=zac }
def k164:Con:={ args:=[I],res:=[I],pre:=zbi,val:=zaU }
def k102:Con:={ args:=[I,I],res:=[.bo],pre:=zaD,val:=zaO }
def k165:Con:={ args:=[I,(.ref (.mp I .bo))],res:=[.bo],pre:=zaI,val:=zaJ }
def k118:Con:={ args:=[(.st (.p I (.p I (.p I I))))],res:=[I],pre:=zbp,val:=zbm }
def k163:Con:={ args:=[(.sl I),(.f1 I .bo),(.f1 I I)],res:=[I],pre:=zbV,val:=zaN }
def k117:Con:={ args:=[(.sl (.st (.p I (.p I (.p I I))))),(.f1 I .bo),(.f1 (.st (.p I (.p I (.p I I)))) I)],res:=[I],pre:=zcU,val:=zbb }
def k107:Con:={ args:=[(.rn (.st (.p (.sl I) (.p (.sl I) (.sl I))))),I],res:=[I],pre:=zdb,val:=zbR }
def k105:Con:={ args:=[(.rn (.st (.p (.sl I) (.p (.sl I) (.sl I)))))],res:=[I],pre:=zcv,val:=zay }
def k162:ICon:={ args:=[(.ref I)],two:=false,elt:=I,pre:=zda,seq:=zbc }
def k106:Con:={ args:=[I],res:=[(.sq false I)],pre:=zcI,val:=zbC }
def k109:Con:={ args:=[(.rn (.st (.p (.sl I) (.p (.sl I) (.sl I))))),I],res:=[.bo],pre:=zci,val:=zaA }
def k41:Con:={ args:=[(.st (.p (.sl (.st (.p I (.p (.st (.p I I)) (.st (.p I I)))))) (.sl (.st (.p I (.p I (.p I I)))))))],res:=[I,I],pre:=zee,val:=zan }
def k46:Con:={ args:=[(.st (.p (.sl (.st (.p I (.p (.st (.p I I)) (.st (.p I I)))))) (.sl (.st (.p I (.p I (.p I I)))))))],res:=[I,I,I],pre:=zf,val:=zaE }
def k87:NCon:={ args:=[(.sl I)],res:=[(.sl I)],pos:=0,el:=3,box:=false,pre:=zcu,val:=zaC }
def cx155:Cx:=mkCx T 15 [] [] [] [] [] [] [] none
abbrev yZZ:=(Prod Int Int)
abbrev yZY:=(Prod (List Int) (Prod (List Int) (List Int)))
abbrev yZX:=(Int × (Int × Int) × Int × Int)
abbrev yZW:=(Int × Int × Int × Int)
abbrev yZV:=((Prod Int (Prod Int yZZ)))
abbrev yZU:=(Prod Int (Prod yZZ yZZ))
abbrev yZT:=((List Int) × (List Int) × List Int)
def V155 (x:Int × Int × Int):Prop:=(((decide ((x.2.1:Int)<=x.1)&&decide ((x.1:Int)<=x.2.2)):Bool)=(zav x))
theorem e155 (x:Ds k155.args):vcFun cx155 f155 k155 x=V155 x:=by kernel_rfl
def cx156:Cx:=mkCx T 24 [] [] [] [] [] [] [] none
def V156 (x:(Int × Int) × Int × Int):Prop:=((((decide ((x.2.1:Int)<=x.1.1)&&decide ((x.1.1:Int)<=x.1.2))&&decide ((x.1.2:Int)<=x.2.2)):Bool)=(zbW x))
theorem e156 (x:Ds k156.args):vcFun cx156 f156 k156 x=V156 x:=by kernel_rfl
def cx154:Cx:=mkCx T 19 [(155,k155),(156,k156)] [] [] [] [] [] [] none
def V154 (x:Int × (Int × Int) × Int × Int):Prop:=((zbO (x.1,0,255))/\((((!(zav (x.1,0,255)))=false)->(zdL (x.2.1,0,1048576)))/\(((((!(zav (x.1,0,255)))||(!(zbW (x.2.1,0,1048576))))=false)->(zdL (x.2.2,0,1048576)))/\(((((!(zav (x.1,0,255)))||(!(zbW (x.2.1,0,1048576))))||(!(zbW (x.2.2,0,1048576)))):Bool)=(zbP x)))))
theorem e154 (x:Ds k154.args):vcFun cx154 f154 k154 x=V154 x:=by kernel_rfl
def cx157:Cx:=mkCx T 25 [(155,k155)] [] [] [] [] [] [] none
def V157 (x:Int × Int × Int × Int):Prop:=((zbO (x.1,0,7))/\((((!(zav (x.1,0,7)))=false)->(zbO (x.2.1,0,1048576)))/\(((((!(zav (x.1,0,7)))||(!(zav (x.2.1,0,1048576))))=false)->(zbO (x.2.2.1,0,1048576)))/\((((((!(zav (x.1,0,7)))||(!(zav (x.2.1,0,1048576))))||(!(zav (x.2.2.1,0,1048576))))=false)->(zbO (x.2.2.2,0,1000000)))/\((((((!(zav (x.1,0,7)))||(!(zav (x.2.1,0,1048576))))||(!(zav (x.2.2.1,0,1048576))))||(!(zav (x.2.2.2,0,1000000)))):Bool)=(zck x))))))
theorem e157 (x:Ds k157.args):vcFun cx157 f157 k157 x=V157 x:=by kernel_rfl
def cx193:Cx:=mkCx T 19 [] [] [] [] [] [(2,⟨[(8,false)],[],[],[]⟩)] [] none
def V193 (x:(List yZX) × Go.Sx.Fun yZX Bool):Prop:=Z.LoopP (X:=Int) (0) (fun s0 K0=>(((decide ((s0:Int)<(x.1.length:Int))=true)->(((0:Int)<=s0/\(s0:Int)<(x.1.length:Int))/\((x.2.pre (x.1.getD (yby s0) (0,(0,0),0,0)))/\((((x.2.val (x.1.getD (yby s0) (0,(0,0),0,0)))=true)->((s0:Int)=(zaq x)))/\(((x.2.val (x.1.getD (yby s0) (0,(0,0),0,0)))=false)->(Z.in64 (s0+1)/\(K0 (s0+1))))))))/\((decide ((s0:Int)<(x.1.length:Int))=false)->(((-1):Int)=(zaq x)))))
theorem e193 (x:Ds k193.args):vcFun cx193 f193 k193 x=V193 x:=by kernel_rfl
def cx158:Cx:=mkCx T 9 [(193,k193)] [] [] [] [] [] [] none
def V158 (x:(List yZX) × Go.Sx.Fun yZX Bool):Prop:=((zb (x.1,x.2))/\((decide ((0:Int)<=(zaq (x.1,x.2))):Bool)=(zak x)))
theorem e158 (x:Ds k158.args):vcFun cx158 f158 k158 x=V158 x:=by kernel_rfl
def cx194:Cx:=mkCx T 19 [] [] [] [] [] [(2,⟨[(8,false)],[],[],[]⟩)] [] none
def V194 (x:(List yZW) × Go.Sx.Fun yZW Bool):Prop:=Z.LoopP (X:=Int) (0) (fun s0 K0=>(((decide ((s0:Int)<(x.1.length:Int))=true)->(((0:Int)<=s0/\(s0:Int)<(x.1.length:Int))/\((x.2.pre (x.1.getD (yby s0) (0,0,0,0)))/\((((x.2.val (x.1.getD (yby s0) (0,0,0,0)))=true)->((s0:Int)=(zar x)))/\(((x.2.val (x.1.getD (yby s0) (0,0,0,0)))=false)->(Z.in64 (s0+1)/\(K0 (s0+1))))))))/\((decide ((s0:Int)<(x.1.length:Int))=false)->(((-1):Int)=(zar x)))))
theorem e194 (x:Ds k194.args):vcFun cx194 f194 k194 x=V194 x:=by kernel_rfl
def cx159:Cx:=mkCx T 9 [(194,k194)] [] [] [] [] [] [] none
def V159 (x:(List yZW) × Go.Sx.Fun yZW Bool):Prop:=((zbg (x.1,x.2))/\((decide ((0:Int)<=(zar (x.1,x.2))):Bool)=(zaB x)))
theorem e159 (x:Ds k159.args):vcFun cx159 f159 k159 x=V159 x:=by kernel_rfl
def cx100:Cx:=mkCx T 29 [(154,k154),(157,k157),(158,k158),(159,k159)] [] [] [] [] [] [] none
def V100 (x:(List yZX) × List yZW):Prop:=((((decide (((x.1.length:Int):Int)<=8)&&decide (((x.2.length:Int):Int)<=8))=true)->(zaQ (x.1,(⟨zcd,zbP⟩:Go.Sx.Fun (yZU) (Bool)))))/\(((((decide (((x.1.length:Int):Int)<=8)&&decide (((x.2.length:Int):Int)<=8))&&(!(zak (x.1,(⟨zcd,zbP⟩:Go.Sx.Fun (yZU) (Bool))))))=true)->(zaW (x.2,(⟨zcK,zck⟩:Go.Sx.Fun yZV (Bool)))))/\(((((decide (((x.1.length:Int):Int)<=8)&&decide (((x.2.length:Int):Int)<=8))&&(!(zak (x.1,(⟨zcd,zbP⟩:Go.Sx.Fun (yZU) (Bool))))))&&(!(zaB (x.2,(⟨zcK,zck⟩:Go.Sx.Fun yZV (Bool)))))):Bool)=(zcr x))))
theorem e100 (x:Ds k100.args):vcFun cx100 f100 k100 x=V100 x:=by kernel_rfl
def cx251:Cx:=mkCx T 8 [] [] [] [] [] [] [] none
def V251 (x:Unit × Int × (Int × Int) × Int × Int):Prop:=((x.2.2.1.1:Int)=(zcX x))
theorem e251 (x:Ds k251.args):vcFun cx251 f251 k251 x=V251 x:=by kernel_rfl
def cx252:Cx:=mkCx T 8 [] [] [] [] [] [] [] none
def V252 (x:Unit × Int × (Int × Int) × Int × Int):Prop:=((x.2.2.2.2:Int)=(zcH x))
theorem e252 (x:Ds k252.args):vcFun cx252 f252 k252 x=V252 x:=by kernel_rfl
def cx253:Cx:=mkCx T 8 [] [] [] [] [] [] [] none
def V253 (x:Unit × Int × (Int × Int) × Int × Int):Prop:=((x.2.2.1.2:Int)=(zdl x))
theorem e253 (x:Ds k253.args):vcFun cx253 f253 k253 x=V253 x:=by kernel_rfl
def cx254:Cx:=mkCx T 8 [] [] [] [] [] [] [] none
def V254 (x:Unit × Int × (Int × Int) × Int × Int):Prop:=((x.2.2.2.1:Int)=(zcY x))
theorem e254 (x:Ds k254.args):vcFun cx254 f254 k254 x=V254 x:=by kernel_rfl
def cx101:Cx:=withStl [(4,[(14,0)])] <| withHld [13,14] <| withNlp [(13,[(0,56),(1,56),(2,183)])] <| mkCx T 93 [] [] [] [] [14] [(3,⟨[(18,false)],[14,150896],[150897,150898],[]⟩),(8,⟨[(37,false)],[14,150897,150898],[150896],[]⟩),(12,⟨[(10,false),(44,false)],[],[14,150896,150897,150898,9],[]⟩)] [] none
def V101 (x:((List yZX) × List yZW) × (Go.Sx.Fun yZX Int) × ((Go.Sx.Fun yZX Int) × Unit)):Prop:=(True/\(True/\Z.LoopP (X:=(Prod Int (Prod yZY (List Int)))) ((0,([],[],[]),[])) (fun s0 K0=>(((decide ((s0.1:Int)<(x.1.2.length:Int))=true)->(((0:Int)<=s0.1/\(s0.1:Int)<(x.1.2.length:Int))/\(Z.roomy 1 ((s0.2.2++((yaa 1 0).set 0 (((x.1.2.getD (yby s0.1) (0,0,0,0)).2).1))).length:Int)/\(Z.in64 (s0.1+1)/\((([]:(List Int))=[])/\((([]:(List Int))=[])/\(K0 ((s0.1+1),s0.2.1,(s0.2.2++((yaa 1 0).set 0 (((x.1.2.getD (yby s0.1) (0,0,0,0)).2).1)))))))))))/\((decide ((s0.1:Int)<(x.1.2.length:Int))=false)->Z.LoopP (X:=(Prod Int (Prod yZY (Prod (List Int) (List Int))))) ((0,s0.2.1,[],[])) (fun s1 K1=>(((decide ((s1.1:Int)<(x.1.1.length:Int))=true)->(((0:Int)<=s1.1/\(s1.1:Int)<(x.1.1.length:Int))/\Z.LoopP (X:=yZZ) ((0,0)) (fun s2 K2=>(((decide ((s2.2:Int)<(x.1.2.length:Int))=true)->(((0:Int)<=s2.2/\(s2.2:Int)<(x.1.2.length:Int))/\(((0:Int)<=(x.1.2.getD (yby s2.2) (0,0,0,0)).1/\((x.1.2.getD (yby s2.2) (0,0,0,0)).1:Int)<64)/\(((0:Int)<=(ydy ((x.1.1.getD (yby s1.1) (0,(0,0),0,0)).1) (2^(yby ((x.1.2.getD (yby s2.2) (0,0,0,0)).1))))/\(0:Int)<=1)/\(((((((yby ((ydy ((x.1.1.getD (yby s1.1) (0,(0,0),0,0)).1) (2^(yby ((x.1.2.getD (yby s2.2) (0,0,0,0)).1)))))) &&& (yby (1)):Nat):Int)==1)=true)->(x.2.2.1.pre (x.1.1.getD (yby s1.1) (0,(0,0),0,0))))/\((((((((yby ((ydy ((x.1.1.getD (yby s1.1) (0,(0,0),0,0)).1) (2^(yby ((x.1.2.getD (yby s2.2) (0,0,0,0)).1)))))) &&& (yby (1)):Nat):Int)==1)&&decide (((x.2.2.1.val (x.1.1.getD (yby s1.1) (0,(0,0),0,0))):Int)<=(((x.1.2.getD (yby s2.2) (0,0,0,0)).2).2).1))=true)->((((0:Int)<=s2.2/\(s2.2:Int)<64)/\Z.in64 (1*2^(yby (s2.2))))/\(((0:Int)<=s2.1/\(0:Int)<=(1*2^(yby (s2.2))))/\(Z.in64 (s2.2+1)/\(((s1.2.1:yZY)=s1.2.1)/\(((s0.2.2:(List Int))=s0.2.2)/\(((s1.2.2.1:(List Int))=s1.2.2.1)/\(((s1.2.2.2:(List Int))=s1.2.2.2)/\((((x.1.1.getD (yby s1.1) (0,(0,0),0,0)):yZU)=(x.1.1.getD (yby s1.1) (0,(0,0),0,0)))/\(K2 ((((yby (s2.1)) ||| (yby ((1*2^(yby (s2.2))))):Nat):Int),(s2.2+1))))))))))))/\(((((((yby ((ydy ((x.1.1.getD (yby s1.1) (0,(0,0),0,0)).1) (2^(yby ((x.1.2.getD (yby s2.2) (0,0,0,0)).1)))))) &&& (yby (1)):Nat):Int)==1)&&decide (((x.2.2.1.val (x.1.1.getD (yby s1.1) (0,(0,0),0,0))):Int)<=(((x.1.2.getD (yby s2.2) (0,0,0,0)).2).2).1))=false)->(Z.in64 (s2.2+1)/\(((s1.2.1:yZY)=s1.2.1)/\(((s0.2.2:(List Int))=s0.2.2)/\(((s1.2.2.1:(List Int))=s1.2.2.1)/\(((s1.2.2.2:(List Int))=s1.2.2.2)/\((((x.1.1.getD (yby s1.1) (0,(0,0),0,0)):yZU)=(x.1.1.getD (yby s1.1) (0,(0,0),0,0)))/\(K2 (s2.1,(s2.2+1))))))))))))))))/\((decide ((s2.2:Int)<(x.1.2.length:Int))=false)->((x.2.1.pre (x.1.1.getD (yby s1.1) (0,(0,0),0,0)))/\(Z.roomy 1 ((s1.2.2.1++((yaa 1 0).set 0 (x.2.1.val (x.1.1.getD (yby s1.1) (0,(0,0),0,0))))).length:Int)/\(Z.roomy 1 ((s1.2.2.2++((yaa 1 0).set 0 s2.1)).length:Int)/\(Z.in64 (s1.1+1)/\(((s0.2.2:(List Int))=s0.2.2)/\(K1 ((s1.1+1),s1.2.1,(s1.2.2.1++((yaa 1 0).set 0 (x.2.1.val (x.1.1.getD (yby s1.1) (0,(0,0),0,0))))),(s1.2.2.2++((yaa 1 0).set 0 s2.1))))))))))))))/\((decide ((s1.1:Int)<(x.1.1.length:Int))=false)->(True/\(((some ((s0.2.2,s1.2.2.1,s1.2.2.2)):Option (yZY)):(Option yZY))=(zac x)))))))))))
theorem e101 (x:Ds k101.args):vcFun cx101 f101 k101 x=V101 x:=by kernel_rfl
def cx164:Cx:=mkCx T 4 [] [] [] [] [] [] [] none
def V164 (x:Int):Prop:=((x:Int)=(zaU x))
theorem e164 (x:Ds k164.args):vcFun cx164 f164 k164 x=V164 x:=by kernel_rfl
def cx102:Cx:=mkCx T 10 [] [] [] [] [] [] [] none
def V102 (x:Int × Int):Prop:=(((0:Int)<=x.2/\(x.2:Int)<64)/\(((0:Int)<=(ydy x.1 (2^(yby (x.2))))/\(0:Int)<=1)/\((((((yby ((ydy x.1 (2^(yby (x.2)))))) &&& (yby (1)):Nat):Int)==1):Bool)=(zaO x))))
theorem e102 (x:Ds k102.args):vcFun cx102 f102 k102 x=V102 x:=by kernel_rfl
def cx165:Cx:=mkCx T 7 [] [] [] [] [] [] [] none
def V165 (x:Int × (Int->Option Bool)):Prop:=((((x.2 x.1).getD false):Bool)=(zaJ x))
theorem e165 (x:Ds k165.args):vcFun cx165 f165 k165 x=V165 x:=by kernel_rfl
def cx118:Cx:=mkCx T 5 [] [] [] [] [] [] [] none
def V118 (x:Int × Int × Int × Int):Prop:=((x.2.2.2:Int)=(zbm x))
theorem e118 (x:Ds k118.args):vcFun cx118 f118 k118 x=V118 x:=by kernel_rfl
def cx163:Cx:=mkCx T 26 [] [] [] [] [] [(2,⟨[(6,false),(11,false)],[],[],[]⟩)] [] none
def V163 (x:(List Int) × (Go.Sx.Fun Int Bool) × Go.Sx.Fun Int Int):Prop:=Z.LoopP (X:=yZZ) ((0,0)) (fun s0 K0=>(((decide ((s0.2:Int)<(x.1.length:Int))=true)->(((0:Int)<=s0.2/\(s0.2:Int)<(x.1.length:Int))/\((x.2.1.pre s0.2)/\((((x.2.1.val s0.2)=true)->((x.2.2.pre (x.1.getD (yby s0.2) 0))/\(Z.in64 (s0.1+(x.2.2.val (x.1.getD (yby s0.2) 0)))/\(Z.in64 (s0.2+1)/\(K0 ((s0.1+(x.2.2.val (x.1.getD (yby s0.2) 0))),(s0.2+1)))))))/\(((x.2.1.val s0.2)=false)->(Z.in64 (s0.2+1)/\(K0 (s0.1,(s0.2+1)))))))))/\((decide ((s0.2:Int)<(x.1.length:Int))=false)->((s0.1:Int)=(zaN x)))))
theorem e163 (x:Ds k163.args):vcFun cx163 f163 k163 x=V163 x:=by kernel_rfl
def cx117:Cx:=mkCx T 26 [] [] [] [] [] [(2,⟨[(6,false),(11,false)],[],[],[]⟩)] [] none
def V117 (x:(List yZW) × (Go.Sx.Fun Int Bool) × Go.Sx.Fun yZW Int):Prop:=Z.LoopP (X:=yZZ) ((0,0)) (fun s0 K0=>(((decide ((s0.2:Int)<(x.1.length:Int))=true)->(((0:Int)<=s0.2/\(s0.2:Int)<(x.1.length:Int))/\((x.2.1.pre s0.2)/\((((x.2.1.val s0.2)=true)->((x.2.2.pre (x.1.getD (yby s0.2) (0,0,0,0)))/\(Z.in64 (s0.1+(x.2.2.val (x.1.getD (yby s0.2) (0,0,0,0))))/\(Z.in64 (s0.2+1)/\(K0 ((s0.1+(x.2.2.val (x.1.getD (yby s0.2) (0,0,0,0)))),(s0.2+1)))))))/\(((x.2.1.val s0.2)=false)->(Z.in64 (s0.2+1)/\(K0 (s0.1,(s0.2+1)))))))))/\((decide ((s0.2:Int)<(x.1.length:Int))=false)->((s0.1:Int)=(zbb x)))))
theorem e117 (x:Ds k117.args):vcFun cx117 f117 k117 x=V117 x:=by kernel_rfl
def cx107:Cx:=withFrc [(37,5)] <| withHld [5] <| mkCx T 40 [(102,k102),(163,k163),(164,k164),(165,k165)] [] [] [] [] [(3,⟨[(14,false)],[8,5],[],[]⟩)] [] none
def V107 (x:(Option yZT) × Int):Prop:=((x.1.isSome=true)/\Z.LoopP (X:=(Prod Int (Prod (Int->(Option Bool)) (Int->(Option Bool))))) ((0,(fun x1=>(none:Option (Bool))),(fun x2=>(none:Option (Bool))))) (fun s0 K0=>(((decide ((s0.1:Int)<((((x.1.getD ([],[],[])).2).2).length:Int))=true)->(((0:Int)<=s0.1/\(s0.1:Int)<((((x.1.getD ([],[],[])).2).2).length:Int))/\(((0:Int)<=((((x.1.getD ([],[],[])).2).2).getD (yby s0.1) 0)/\(0:Int)<=x.2)/\(Z.in64 (s0.1+1)/\(K0 ((s0.1+1),(@Go.Sx.Z.mput (Int) (Bool) (fun x3=>(fun x4=>(x3==x4))) s0.2.1 s0.1 (!((((yby (((((x.1.getD ([],[],[])).2).2).getD (yby s0.1) 0))) &&& (yby (x.2)):Nat):Int)==0))),s0.2.2))))))/\((decide ((s0.1:Int)<((((x.1.getD ([],[],[])).2).2).length:Int))=false)->((x.1.isSome=true)/\((zbV ((x.1.getD ([],[],[])).1,(⟨(fun y5=>(zaD (x.2,y5))),(fun y6=>(zaO (x.2,y6)))⟩:Go.Sx.Fun (Int) (Bool)),(⟨zbi,zaU⟩:Go.Sx.Fun (Int) (Int))))/\((x.1.isSome=true)/\((zbV (((x.1.getD ([],[],[])).2).1,(⟨(fun x7=>(zaI (x7,s0.2.1))),(fun x8=>(zaJ (x8,s0.2.1)))⟩:Go.Sx.Fun (Int) (Bool)),(⟨zbi,zaU⟩:Go.Sx.Fun (Int) (Int))))/\(Z.in64 ((zaN ((x.1.getD ([],[],[])).1,(⟨(fun y9=>(zaD (x.2,y9))),(fun y10=>(zaO (x.2,y10)))⟩:Go.Sx.Fun (Int) (Bool)),(⟨zbi,zaU⟩:Go.Sx.Fun (Int) (Int)))) - (zaN (((x.1.getD ([],[],[])).2).1,(⟨(fun x11=>(zaI (x11,s0.2.1))),(fun x12=>(zaJ (x12,s0.2.1)))⟩:Go.Sx.Fun (Int) (Bool)),(⟨zbi,zaU⟩:Go.Sx.Fun (Int) (Int)))))/\((((zaN ((x.1.getD ([],[],[])).1,(⟨(fun y13=>(zaD (x.2,y13))),(fun y14=>(zaO (x.2,y14)))⟩:Go.Sx.Fun (Int) (Bool)),(⟨zbi,zaU⟩:Go.Sx.Fun (Int) (Int)))) - (zaN (((x.1.getD ([],[],[])).2).1,(⟨(fun x15=>(zaI (x15,s0.2.1))),(fun x16=>(zaJ (x16,s0.2.1)))⟩:Go.Sx.Fun (Int) (Bool)),(⟨zbi,zaU⟩:Go.Sx.Fun (Int) (Int))))):Int)=(zbR x)))))))))))
theorem e107 (x:Ds k107.args):vcFun cx107 f107 k107 x=V107 x:=by kernel_rfl
def cx105:Cx:=mkCx T 10 [] [] [] [] [] [] [] none
def V105 (x:Option yZT):Prop:=((x.isSome=true)/\((((0:Int)<=(((x.getD ([],[],[])).1).length:Int)/\((((x.getD ([],[],[])).1).length:Int):Int)<64)/\Z.in64 (1*2^(yby ((((x.getD ([],[],[])).1).length:Int)))))/\(Z.in64 ((1*2^(yby ((((x.getD ([],[],[])).1).length:Int)))) - 1)/\((((1*2^(yby ((((x.getD ([],[],[])).1).length:Int)))) - 1):Int)=(zay x)))))
theorem e105 (x:Ds k105.args):vcFun cx105 f105 k105 x=V105 x:=by kernel_rfl
def cx162 (ly:Nat) (x:Ds k162.args):Cx:=mkCx T 20 [] [] [] [] [] [(1,⟨[(6,false)],[300000],[],[]⟩)] [] (some ⟨ly,300000,k162.two,k162.elt,k162.seq x⟩)
def V162 (ly:Nat) (x:Int):Prop:=(Z.in64 (x+1)/\Z.LoopP (X:=(Prod Int (Prod (List Int) Bool))) ((0,[],false)) (fun s0 K0=>(((decide ((s0.1:Int)<(x+1))=true)->(True/\(True/\(((0:Int)<=s0.1/\(0:Int)<=x)/\(True/\(True/\(True/\(True/\(((((((yby (s0.1)) ^^^ ((yby (s0.1)) &&& (yby (x))):Nat):Int)==0)=true)->((((ly:Nat)=ly)/\(s0.2.2=false))/\((∃ r1,((zbc x)=(s0.2.1++(s0.1::r1))))/\((True/\(True/\((((((((yby (s0.1)) ^^^ ((yby (s0.1)) &&& (yby (x))):Nat):Int)==0)&&(!true))=true)->((false=false)->(((s0.2.1++[s0.1]):(List Int))=(zbc x))))/\(((((((yby (s0.1)) ^^^ ((yby (s0.1)) &&& (yby (x))):Nat):Int)==0)&&(!true))=false)->(Z.in64 (s0.1+1)/\(K0 ((s0.1+1),(s0.2.1++[s0.1]),false)))))))/\(True/\(True/\((((((((yby (s0.1)) ^^^ ((yby (s0.1)) &&& (yby (x))):Nat):Int)==0)&&(!false))=true)->((true=false)->(((s0.2.1++[s0.1]):(List Int))=(zbc x))))/\(((((((yby (s0.1)) ^^^ ((yby (s0.1)) &&& (yby (x))):Nat):Int)==0)&&(!false))=false)->(Z.in64 (s0.1+1)/\(K0 ((s0.1+1),(s0.2.1++[s0.1]),true)))))))))))/\((((((yby (s0.1)) ^^^ ((yby (s0.1)) &&& (yby (x))):Nat):Int)==0)=false)->(True/\(True/\((((((((yby (s0.1)) ^^^ ((yby (s0.1)) &&& (yby (x))):Nat):Int)==0)&&(!false))=true)->((s0.2.2=false)->((s0.2.1:(List Int))=(zbc x))))/\(((((((yby (s0.1)) ^^^ ((yby (s0.1)) &&& (yby (x))):Nat):Int)==0)&&(!false))=false)->(Z.in64 (s0.1+1)/\(K0 ((s0.1+1),s0.2)))))))))))))))))/\((decide ((s0.1:Int)<(x+1))=false)->((s0.2.2=false)->((s0.2.1:(List Int))=(zbc x)))))))
theorem e162 (ly:Nat) (x:Ds k162.args):vcIter (cx162 ly x) f162 k162 x=V162 ly x:=by kernel_rfl
def cx106:Cx:=mkCx T 4 [] [] [(162,k162)] [] [] [] [] none
def V106 (x:Int):Prop:=((⟨(zda x),(zbc x)⟩:(Go.Sx.Seq Int))=(zbC x))
theorem e106 (x:Ds k106.args):vcFun cx106 f106 k106 x=V106 x:=by kernel_rfl
def cx109:Cx:=mkCx T 13 [(106,k106),(107,k107)] [] [] [] [] [(2,⟨[],[4],[],[]⟩)] [] none
def V109 (x:(Option yZT) × Int):Prop:=((zcI x.2)/\((zbC x.2).1/\Z.RangeP (X:=Bool) (false) ((zbC x.2).2) (fun e0 s0 K0=>((zdb (x.1,e0))/\(((decide ((0:Int)<(zbR (x.1,e0)))=true)->((false:Bool)=(zaA x)))/\((decide ((0:Int)<(zbR (x.1,e0)))=false)->(K0 s0))))) (fun s0=>((true:Bool)=(zaA x)))))
theorem e109 (x:Ds k109.args):vcFun cx109 f109 k109 x=V109 x:=by kernel_rfl
abbrev o210n1 (x:Int):Int:=(Go.IntKind.wrap .u64 ((((yby ((ydy x (2^(yby (1)))))) &&& (yby (6148914691236517205)):Nat):Int)+(((yby (x)) &&& (yby (6148914691236517205)):Nat):Int)))
abbrev o210n2 (x:Int):Int:=(Go.IntKind.wrap .u64 ((((yby ((ydy (o210n1 x) (2^(yby (2)))))) &&& (yby (3689348814741910323)):Nat):Int)+(((yby ((o210n1 x))) &&& (yby (3689348814741910323)):Nat):Int)))
abbrev o210n3 (x:Int):Int:=(Go.IntKind.wrap .u64 ((ydy (o210n2 x) (2^(yby (4))))+(o210n2 x)))
abbrev o210n4 (x:Int):Int:=(Go.IntKind.wrap .u64 ((((yby ((o210n3 x))) &&& (yby (1085102592571150095)):Nat):Int)+(ydy (((yby ((o210n3 x))) &&& (yby (1085102592571150095)):Nat):Int) (2^(yby (8))))))
abbrev o210n5 (x:Int):Int:=(Go.IntKind.wrap .u64 ((o210n4 x)+(ydy (o210n4 x) (2^(yby (16))))))
abbrev o210n6 (x:Int):Int:=(Go.IntKind.wrap .u64 ((o210n5 x)+(ydy (o210n5 x) (2^(yby (32))))))
def V210 (x:Int):Prop:=(((0:Int)<=1/\(1:Int)<=64)/\(((0:Int)<=(ydy x (2^(yby (1))))/\(0:Int)<=6148914691236517205)/\(((0:Int)<=x/\(0:Int)<=6148914691236517205)/\(((0:Int)<=2/\(2:Int)<=64)/\(((0:Int)<=(ydy (o210n1 x) (2^(yby (2))))/\(0:Int)<=3689348814741910323)/\(((0:Int)<=(o210n1 x)/\(0:Int)<=3689348814741910323)/\(((0:Int)<=4/\(4:Int)<=64)/\(((0:Int)<=(o210n3 x)/\(0:Int)<=1085102592571150095)/\(((0:Int)<=8/\(8:Int)<=64)/\(((0:Int)<=16/\(16:Int)<=64)/\(((0:Int)<=32/\(32:Int)<=64)/\(((0:Int)<=(Go.IntKind.wrap .i64 (o210n6 x))/\(0:Int)<=127)/\(((((yby ((Go.IntKind.wrap .i64 (o210n6 x)))) &&& (yby (127)):Nat):Int):Int)=(zeu x))))))))))))))
def cx41:Cx:=mkCx T 31 [(100,k100),(251,k251),(252,k252),(253,k253),(254,k254),(101,k101),(105,k105),(109,k109)] [] [] [] [] [(4,⟨[(16,false)],[],[14],[]⟩)] [] none
def V41 (x:(List yZX) × List yZW):Prop:=((zdM x)/\((((!(zcr x))=true)->(((0,1):yZZ)=(zan x)))/\(((!(zcr x))=false)->Z.LoopP (X:=Int) (0) (fun s0 K0=>(((decide ((s0:Int)<(fates.length:Int))=true)->(((0:Int)<=s0/\(s0:Int)<(fates.length:Int))/\((zcJ (x,(fates.getD (yby s0) (zeroT))))/\((zcv (zac (x,(fates.getD (yby s0) (zeroT)))))/\((zci ((zac (x,(fates.getD (yby s0) (zeroT)))),(zay (zac (x,(fates.getD (yby s0) (zeroT)))))))/\((((zaA ((zac (x,(fates.getD (yby s0) (zeroT)))),(zay (zac (x,(fates.getD (yby s0) (zeroT)))))))=true)->(Z.in64 (2 - s0)/\((((2 - s0),0):yZZ)=(zan x))))/\(((zaA ((zac (x,(fates.getD (yby s0) (zeroT)))),(zay (zac (x,(fates.getD (yby s0) (zeroT)))))))=false)->(Z.in64 (s0+1)/\(((fates:(List (Prod (Go.Sx.Fun yZU Int) (Prod (Go.Sx.Fun yZU Int) PUnit))))=fates)/\(K0 (s0+1)))))))))))/\((decide ((s0:Int)<(fates.length:Int))=false)->(((0,0):yZZ)=(zan x))))))))
theorem e41 (x:Ds k41.args):vcFun cx41 f41 k41 x=V41 x:=by kernel_rfl
def cx46:Cx:=mkCx T 36 [(100,k100),(251,k251),(252,k252),(101,k101),(105,k105),(106,k106),(102,k102),(117,k117),(118,k118),(109,k109)] [] [] [5] [] [(5,⟨[],[2,3],[5],[]⟩)] [] none
def V46 (x:(List yZX) × List yZW):Prop:=((zdM x)/\((((!(zcr x))=true)->(((0,0,1):(Prod Int yZZ))=(zaE x)))/\(((!(zcr x))=false)->((zcJ (x,worstT))/\((zcv (zac (x,worstT)))/\((zcI (zay (zac (x,worstT))))/\((zbC (zay (zac (x,worstT)))).1/\Z.RangeP (X:=yZZ) ((0,0)) ((zbC (zay (zac (x,worstT)))).2) (fun e16 s16 K16=>((zcU (x.2,(⟨(fun y21=>(zaD (e16,y21))),(fun y22=>(zaO (e16,y22)))⟩:Go.Sx.Fun (Int) (Bool)),(⟨zbp,zbm⟩:Go.Sx.Fun yZV (Int))))/\(((decide ((s16.2:Int)<(zbb (x.2,(⟨(fun y23=>(zaD (e16,y23))),(fun y24=>(zaO (e16,y24)))⟩:Go.Sx.Fun (Int) (Bool)),(⟨zbp,zbm⟩:Go.Sx.Fun yZV (Int)))))=true)->(zci ((zac (x,worstT)),e16)))/\((((decide ((s16.2:Int)<(zbb (x.2,(⟨(fun y29=>(zaD (e16,y29))),(fun y30=>(zaO (e16,y30)))⟩:Go.Sx.Fun (Int) (Bool)),(⟨zbp,zbm⟩:Go.Sx.Fun yZV (Int)))))&&(zaA ((zac (x,worstT)),e16)))=true)->((((zac (x,worstT)):(Option yZY))=(zac (x,worstT)))/\(K16 (e16,(zbb (x.2,(⟨(fun y43=>(zaD (e16,y43))),(fun y44=>(zaO (e16,y44)))⟩:Go.Sx.Fun (Int) (Bool)),(⟨zbp,zbm⟩:Go.Sx.Fun yZV (Int))))))))/\(((decide ((s16.2:Int)<(zbb (x.2,(⟨(fun y45=>(zaD (e16,y45))),(fun y46=>(zaO (e16,y46)))⟩:Go.Sx.Fun (Int) (Bool)),(⟨zbp,zbm⟩:Go.Sx.Fun yZV (Int)))))&&(zaA ((zac (x,worstT)),e16)))=false)->((((zac (x,worstT)):(Option yZY))=(zac (x,worstT)))/\(K16 (s16.1,s16.2)))))))) (fun s16=>(((s16.1,s16.2,0):(Prod Int yZZ))=(zaE x))))))))))
theorem e46 (x:Ds k46.args):vcFun cx46 f46 k46 x=V46 x:=by kernel_rfl
def cx87:Cx:=mkCx T 8 [] [] [] [] [] [] [] none
def V87 (x:List Int):Prop:=(True/\(((x=[])->(((true=true)->(([]:(List Int))=(zaC x)))/\((true=false)->(Z.roomy 1 (((yaa 0 0)++x).length:Int)/\((((yaa 0 0)++x):(List Int))=(zaC x))))))/\(((false=true)->(([]:(List Int))=(zaC x)))/\((false=false)->(Z.roomy 1 (((yaa 0 0)++x).length:Int)/\((((yaa 0 0)++x):(List Int))=(zaC x)))))))
theorem e87 (x:Ds k87.args):vcFunN cx87 f87 k87 x=V87 x:=by kernel_rfl
end Go.Tt
/-
 Chapter 10: conditions of small functions,proved.
-/
namespace Go.Tt
open Go Go.Sx
theorem tabs_ok:TabsOk prog T:=⟨by kernel_rfl,maps_ok⟩
theorem zfP {x:Supply}:supplyB x=true↔(0<=x.1/\x.1<=255)/\(0<=x.2.1.1/\x.2.1.1<=x.2.1.2/\x.2.1.2<=topN)/\0<=x.2.2.1/\x.2.2.1<=x.2.2.2/\x.2.2.2<=topN:=by
 simp only [supplyB,yac,inB_iff,zea]
theorem zhg {o:Order}:orderB o=true↔(0<=o.1/\o.1<=7)/\(0<=o.2.1/\o.2.1<=topN)/\(0<=o.2.2.1/\o.2.2.1<=topN)/\0<=o.2.2.2/\o.2.2.2<=1000000:=by
 simp only [orderB,yac,inB_iff]
structure SaleOk (s:Sale):Prop where
 s8:s.1.length<=8
 o8:s.2.length<=8
 sup:∀ x∈s.1,supplyB x=true
 ord:∀ o∈s.2,orderB o=true
theorem zeK {s:Sale}:saleB s=true↔SaleOk s:=by
 simp only [saleB,yac,decide_eq_true_eq,List.all_eq_true]
 exact ⟨fun ⟨⟨h1,h2⟩,h3,h4⟩=>⟨by omega,by omega,h3,h4⟩,fun h=>⟨⟨by have:=h.1;omega,by have:=h.2;omega⟩,h.3,h.4⟩⟩
theorem has_div {s n:Int} (hs:0<=s) (hn:0<=n):((((yby (ydy s (2^(yby n)))) &&& (yby (1)):Nat):Int)==1)=hasB s n:=by
 obtain ⟨m,rfl⟩:=ydz hs
 obtain ⟨k,rfl⟩:=ydz hn
 have e:ydy (m:Int) (2^(yby (k:Int)))=((m / 2^k:Nat):Int):=by
  rw [yaS _ (yaT (yaR (by decide)))]
  simp
 rw [e]
 simp only [hasB,ydx,Nat.testBit_eq_decide_div_mod_eq]
 have:yby 1=1:=rfl
 rw [this,Nat.and_one_is_mod]
 rw [Bool.eq_iff_iff]
 simp only [beq_iff_eq,decide_eq_true_eq]
 omega
theorem zft {α β:Type} (f:α->β) (l:List α) (d:α) (i:Int) (h0:0<=i) (h:i<(l.length:Int)):(l.take (i+1).toNat).map f=(l.take i.toNat).map f++[f (l.getD i.toNat d)]:=by
 have e:(i+1).toNat=i.toNat+1:=by omega
 have h':i.toNat<l.length:=by omega
 rw [e,ydA h',List.map_append]
 simp [ydd,h']
theorem setN_lt:∀ l:List Bool,setN l<2^l.length
 | []=>by simp [setN]
 | b::l=>by
  have:=setN_lt l
  simp only [setN,ybU,ydB]
  cases b<;>simp only [bitN,cond_true,cond_false]<;>omega
theorem ziJ (b:Bool):∀ l:List Bool,setN (l++[b])=setN l+bitN b*2^l.length
 | []=>by simp [setN]
 | a::l=>by
  simp only [yaC,setN,ziJ b l,ybU,ydB]
  have:2*(bitN b*2^l.length)=bitN b*(2^l.length*2):=by rw [Nat.mul_comm (2^l.length) 2,Nat.mul_left_comm]
  omega
theorem setN_or (l:List Bool):setN l ||| 2^l.length=setN (l++[true]):=by
 rw [ziJ,Nat.or_comm]
 have:=Nat.two_pow_add_eq_or_of_lt (setN_lt l) 1
 rw [Nat.mul_one] at this
 rw [<-this]
 simp only [bitN,cond_true]
 omega
theorem zgY {l:List Bool} (h:l.length<=8):smallSet (setOf l):=by
 have h1:=setN_lt l
 have h2:2^l.length<=2^8:=ydC (by decide) h
 simp only [smallSet,setOf]
 omega
theorem pow_int (k:Int):(2^k.toNat:Int)=((2^k.toNat:Nat):Int):=by simp
theorem shl_ok {k:Int} (h0:0<=k) (h8:k<62):((0:Int)<=k/\k<64)/\Z.in64 (1*2^k.toNat):=by
 refine ⟨⟨h0,by omega⟩,?_⟩
 have:(2:Nat)^k.toNat<=2^62:=ydC (by decide) (by omega)
 simp only [Z.in64]
 rw [ydD,pow_int]
 generalize 2^k.toNat=m at *
 omega
theorem pow_nn (k:Int):(0:Int)<=1*2^k.toNat:=by
 rw [ydD,pow_int]
 exact Int.natCast_nonneg _
theorem zld (p:Nat->Bool) (a:Int):∀ (l:List Int) (k:Nat),selS p (l++[a]) k=selS p l k+cond (p (k+l.length)) a 0
 | [],k=>by simp [selS]
 | b::l,k=>by
  simp only [yaC,selS,zld p a l (k+1),ybU]
  have:k+1+l.length=k+(l.length+1):=by omega
  rw [this];omega
theorem zhZ {p q:Nat->Bool}:∀ {l:List Int} {k:Nat},(∀ i,i<l.length->p (k+i)=q (k+i))->selS p l k=selS q l k
 | [],k,_=>rfl
 | a::l,k,h=>by
  have h0:=h 0 (by simp)
  rw [Nat.add_zero] at h0
  have ih:=zhZ (p:=p) (q:=q) (l:=l) (k:=k+1) fun i hi=>by
   have:=h (i+1) (by simp;omega)
   rwa [show k+(i+1)=k+1+i from by omega] at this
  simp only [selS,ih,h0]
theorem selS_bd {p:Nat->Bool}:∀ {l:List Int} {k:Nat},(∀ a∈l,amount a)->0<=selS p l k/\selS p l k<=topN*(l.length:Int)
 | [],k,_=>by simp [selS]
 | a::l,k,h=>by
  have:=selS_bd (p:=p) (l:=l) (k:=k+1) fun b hb=>h b (yal _ hb)
  have ha:=h a yam
  simp only [amount,topN] at ha this ⊢
  simp only [selS,ybU]
  cases p k<;>simp only [cond_true,cond_false]<;>omega
theorem zla {α:Type} (l:List α) (d:α) (p:Fun Int Bool) (f:Fun α Int) (hl:l.length<=8) (hp:∀ k:Int,0<=k->k<8->p.pre k) (hf:∀ a∈l,f.pre a/\amount (f.val a)) :
  Z.LoopP (X:=yZZ) ((0,0)) (fun s0 K0=>(((decide ((s0.2:Int)<(l.length:Int))=true)->(((0:Int)<=s0.2/\(s0.2:Int)<(l.length:Int))/\((p.pre s0.2)/\((((p.val s0.2)=true)->((f.pre (l.getD (yby s0.2) d))/\(Z.in64 (s0.1+(f.val (l.getD (yby s0.2) d)))/\(Z.in64 (s0.2+1)/\(K0 ((s0.1+(f.val (l.getD (yby s0.2) d))),(s0.2+1)))))))/\(((p.val s0.2)=false)->(Z.in64 (s0.2+1)/\(K0 (s0.1,(s0.2+1)))))))))/\((decide ((s0.2:Int)<(l.length:Int))=false)->((s0.1:Int)=selS (fun k=>p.val (k:Nat)) (l.map f.val) 0)))):=by
 refine ⟨fun s=>0<=s.2/\s.2<=(l.length:Int)/\s.1=selS (fun k=>p.val (k:Nat)) ((l.take s.2.toNat).map f.val) 0,fun s=>((l.length:Int) - s.2).toNat,⟨by simp,by simp,rfl⟩,?_⟩
 rintro ⟨a,s⟩ ⟨h1,h2,h3⟩
 simp only at h1 h2 h3 ⊢
 refine ⟨fun h=>?_,fun h=>?_⟩
 ·have h:=of_decide_eq_true h
  obtain ⟨g1,g2⟩:=hf _ (zdr l d s h1 h)
  have e:=zft f.val l d s h1 h
  have e2:selS (fun k=>p.val (k:Nat)) ((l.take (s+1).toNat).map f.val) 0=a+cond (p.val s) (f.val (l.getD s.toNat d)) 0:=by
   rw [e,zld,<-h3]
   have:(0+((l.take s.toNat).map f.val).length:Nat)=s.toNat:=by simp;omega
   rw [this]
   have:((s.toNat:Nat):Int)=s:=by omega
   simp only [this]
  have hb:0<=a/\a<=topN*8:=by
   rw [h3]
   have:=selS_bd (p:=fun k=>p.val (k:Nat)) (l:=(l.take s.toNat).map f.val) (k:=0) fun b hb=>by
    obtain ⟨c,hc,rfl⟩:=ycq.1 hb
    exact (hf c (List.mem_of_mem_take hc)).2
   have h8:(((l.take s.toNat).map f.val).length:Int)<=8:=by
    rw [ycL,ybo];omega
   simp only [topN] at this ⊢
   omega
  simp only [amount,topN] at g2 hb
  refine ⟨⟨h1,h⟩,hp s h1 (by omega),fun hv=>⟨g1,?_,?_,⟨?_,?_,?_⟩,?_⟩,fun hv=>⟨?_,⟨?_,?_,?_⟩,?_⟩⟩
  ·simp only [Z.in64];omega
  ·simp only [Z.in64];omega
  ·show 0<=s+1;omega
  ·show s+1<=_;omega
  ·rw [e2,hv];rfl
  ·omega
  ·simp only [Z.in64];omega
  ·show 0<=s+1;omega
  ·show s+1<=_;omega
  ·rw [e2,hv];simp
  ·omega
 ·have h:=of_decide_eq_false h
  rw [h3,ybT (by omega)]
theorem v117 (x:(List Order) × Fun Int Bool × Fun Order Int) (h:k117.pre x):V117 x:=zla x.1 (0,0,0,0) x.2.1 x.2.2 h.1 h.2.1 h.2.2
theorem v163 (x:(List Int) × Fun Int Bool × Fun Int Int) (h:k163.pre x):V163 x:=zla x.1 0 x.2.1 x.2.2 h.1 h.2.1 h.2.2
theorem v155 (x:Int × Int × Int) (_:k155.pre x):V155 x:=rfl
theorem v156 (x:Span × Int × Int) (_:k156.pre x):V156 x:=by
 show (_:Bool)=_
 simp only [zbW,spanB,ydE]
theorem v154 (x:Supply) (_:k154.pre x):V154 x:=by
 refine ⟨trivial,fun _=>trivial,fun _=>trivial,?_⟩
 show (_:Bool)=_
 simp only [zbP,supplyB,zav,zbW,topN,ydF,ydG]
theorem v157 (x:Order) (_:k157.pre x):V157 x:=by
 refine ⟨trivial,fun _=>trivial,fun _=>trivial,fun _=>trivial,?_⟩
 show (_:Bool)=_
 simp only [zck,orderB,zav,topN,ydF,ydG]
theorem v193 (x:(List Supply) × Fun Supply Bool) (h:k193.pre x):V193 x:=zlq x.1 (0,(0,0),0,0) x.2 h.1 h.2
theorem v158 (x:(List Supply) × Fun Supply Bool) (h:k158.pre x):V158 x:=⟨h,any_ix _ _⟩
theorem v194 (x:(List Order) × Fun Order Bool) (h:k194.pre x):V194 x:=zlq x.1 (0,0,0,0) x.2 h.1 h.2
theorem v159 (x:(List Order) × Fun Order Bool) (h:k159.pre x):V159 x:=⟨h,any_ix _ _⟩
theorem v100 (x:Sale) (_:k100.pre x):V100 x:=by
 have hl:(decide ((x.1.length:Int)<=8)&&decide ((x.2.length:Int)<=8))=true->x.1.length<=big/\x.2.length<=big:=by
  intro h
  simp only [yac,decide_eq_true_eq] at h
  simp only [big];omega
 refine ⟨fun h=>⟨(hl h).1,fun _ _=>trivial⟩,fun h=>⟨?_,fun _ _=>trivial⟩,?_⟩
 ·rw [yac] at h
  exact (hl h.1).2
 ·show ((decide ((x.1.length:Int)<=8)&&decide ((x.2.length:Int)<=8)&&!(x.1.any fun a=>!supplyB a))&&!(x.2.any fun a=>!orderB a))=saleB x
  rw [any_not,any_not,saleB,ydE]
theorem v251 (x:Unit × Supply) (_:k251.pre x):V251 x:=rfl
theorem v252 (x:Unit × Supply) (_:k252.pre x):V252 x:=rfl
theorem v253 (x:Unit × Supply) (_:k253.pre x):V253 x:=rfl
theorem v254 (x:Unit × Supply) (_:k254.pre x):V254 x:=rfl
theorem v164 (x:Int) (_:k164.pre x):V164 x:=rfl
theorem v118 (x:Order) (_:k118.pre x):V118 x:=rfl
theorem v165 (x:Int × (Int->Option Bool)) (_:k165.pre x):V165 x:=rfl
theorem v102 (x:Int × Int) (h:k102.pre x):V102 x:=by
 obtain ⟨h1,h2,h3⟩:=h
 refine ⟨⟨h2,h3⟩,⟨?_,by decide⟩,has_div h1 h2⟩
 rw [yaS _ (yaT (yaR (by decide)))]
 exact yaX h1 (yaT (yaR (by decide)))
end Go.Tt
/-
 Chapter 10: conditions of the market's functions,proved.
-/
namespace Go.Tt
open Go Go.Sx
instance (x:Int):Decidable (V210 x):=by unfold V210;exact inferInstance
theorem v105 (x:Option Market) (h:k105.pre x):V105 x:=by
 have hl:((mkt x).1.length:Int)<=8:=by have:=h.2.a8;omega
 refine ⟨h.1,⟨⟨by omega,by show ((mkt x).1.length:Int)<64;omega⟩,(shl_ok (k:=((mkt x).1.length:Int)) (by omega) (by omega)).2⟩,?_,?_⟩
 ·have h1:(2:Nat)^((mkt x).1.length:Int).toNat<=2^8:=ydC (by decide) (by omega)
  have h2:=pow_nn ((mkt x).1.length:Int)
  show Z.in64 (1*2^yby ((mkt x).1.length:Int) - 1)
  rw [ydD,pow_int] at h2 ⊢
  generalize 2^((mkt x).1.length:Int).toNat=m at *
  simp only [Z.in64];omega
 ·show (1*2^yby ((mkt x).1.length:Int) - 1:Int)=allV (mkt x).1.length
  simp [allV]
theorem zgX {n i:Nat} (h:i<n):(setsTo n).getD i 0=(i:Int):=by
 simp [setsTo,ydd,h]
theorem zgt {α:Type} (p:α->Bool) (l:List α) (d:α) (i:Int) (h0:0<=i) (h:i<(l.length:Int)) :
  l.filter p=(l.take i.toNat).filter p++(if p (l.getD i.toNat d)=true then [l.getD i.toNat d] else [])++(l.drop (i+1).toNat).filter p /\
  (l.take (i+1).toNat).filter p=(l.take i.toNat).filter p++(if p (l.getD i.toNat d)=true then [l.getD i.toNat d] else []):=by
 have e:(i+1).toNat=i.toNat+1:=by omega
 have h':i.toNat<l.length:=by omega
 have e2:(l.take (i+1).toNat).filter p=(l.take i.toNat).filter p++(if p (l.getD i.toNat d)=true then [l.getD i.toNat d] else []):=by
  rw [e,ydA h',ydH]
  have:l.getD i.toNat d=l[i.toNat]:=by simp [ydd,h']
  rw [this,List.filter_cons]
  split<;>simp_all
 refine ⟨?_,e2⟩
 rw [<-e2,<-ydH,List.take_append_drop]
theorem v162 (ly:Nat) (x:Int) (h:k162.pre x):V162 ly x:=by
 have h:smallSet x:=h
 have h0:=h
 simp only [smallSet] at h
 have hlen:((setsTo (x.toNat+1)).length:Int)=x+1:=by simp [setsTo];omega
 refine ⟨by simp only [Z.in64];omega,fun s=>0<=s.1/\s.1<=x+1/\s.2.2=false/\s.2.1=((setsTo (x.toNat+1)).take s.1.toNat).filter (fun y=>subB y x),fun s=>(x+1 - s.1).toNat,⟨by simp,by simp;omega,rfl,by simp⟩,?_⟩
 rintro ⟨i,l,b⟩ ⟨h1,h2,h3,h4⟩
 simp only at h1 h2 h3 h4 ⊢
 subst h3
 refine ⟨fun hi=>⟨trivial,trivial,⟨h1,h.1⟩,trivial,trivial,trivial,trivial,?_,?_⟩,fun hi _=>?_⟩
 ·have hi:=of_decide_eq_true hi
  obtain ⟨e1,e2⟩:=zgt (fun y=>subB y x) (setsTo (x.toNat+1)) 0 i h1 (by omega)
  have hg:(setsTo (x.toNat+1)).getD i.toNat 0=i:=by rw [zgX (by omega)];omega
  rw [hg] at e1 e2
  intro hs
  have hs:subB i x=true:=hs
  rw [if_pos hs] at e1 e2
  refine ⟨⟨trivial,rfl⟩,⟨((setsTo (x.toNat+1)).drop (i+1).toNat).filter (fun y=>subB y x),?_⟩,⟨trivial,trivial,fun hh=>(by rw [yac] at hh;cases hh.2),fun _=>⟨by simp only [Z.in64];omega,⟨by show 0<=i+1;omega,by show i+1<=_;omega,trivial,?_⟩,?_⟩⟩,⟨trivial,trivial,fun _ hh=>(by cases hh),fun hh=>?_⟩⟩
  ·show partsV x=_
   rw [partsV,e1,h4,List.append_assoc]
   rfl
  ·show l++[i]=_
   rw [e2,h4]
  ·show (x+1 - (i+1)).toNat<(x+1 - i).toNat
   omega
  ·rw [show ((((yby (i)) ^^^ ((yby (i)) &&& (yby (x))):Nat):Int)==0)=subB i x from rfl,hs] at hh
   cases hh
 ·have hi:=of_decide_eq_true hi
  obtain ⟨e1,e2⟩:=zgt (fun y=>subB y x) (setsTo (x.toNat+1)) 0 i h1 (by omega)
  have hg:(setsTo (x.toNat+1)).getD i.toNat 0=i:=by rw [zgX (by omega)];omega
  rw [hg] at e1 e2
  intro hs
  have hs:subB i x=false:=hs
  rw [if_neg (by rw [hs];simp)] at e1 e2
  refine ⟨trivial,trivial,fun hh=>?_,fun _=>⟨by simp only [Z.in64];omega,⟨by show 0<=i+1;omega,by show i+1<=_;omega,rfl,?_⟩,?_⟩⟩
  ·rw [show ((((yby (i)) ^^^ ((yby (i)) &&& (yby (x))):Nat):Int)==0)=subB i x from rfl,hs] at hh
   cases hh
  ·show l=_
   rw [e2,h4,List.append_nil]
  ·show (x+1 - (i+1)).toNat<(x+1 - i).toNat
   omega
 ·have hi:=of_decide_eq_false hi
  show l=partsV x
  rw [h4,ybT (by omega)];rfl
theorem v106 (x:Int) (_:k106.pre x):V106 x:=rfl
theorem zhe {x y:Int} (h:smallSet x) (hy:y∈partsV x):smallSet y:=by
 simp only [partsV,List.mem_filter,setsTo,ycq,List.mem_range] at hy
 obtain ⟨⟨n,h1,rfl⟩,_⟩:=hy
 simp only [smallSet] at h ⊢
 omega
theorem v109 (x:(Option Market) × Int) (h:k109.pre x):V109 x:=by
 refine ⟨trivial,h.2,fun l s=>(∀ y∈l,smallSet y)/\meetsM (mkt x.1) x.2=l.all fun y=>!decide (0<lackM (mkt x.1) y),⟨fun y hy=>zhe h.2 hy,rfl⟩,?_,?_⟩
 ·rintro e r s ⟨h1,h2⟩
  rw [List.all_cons] at h2
  refine ⟨⟨h.1,h1 e yam⟩,fun hb=>?_,fun hb=>⟨fun y hy=>h1 y (yal _ hy),?_⟩⟩
  ·have hb:decide (0<lackM (mkt x.1) e)=true:=hb
   show false=meetsM (mkt x.1) x.2
   rw [h2,hb];rfl
  ·have hb:decide (0<lackM (mkt x.1) e)=false:=hb
   rw [h2,hb];rfl
 ·rintro s ⟨_,h2⟩
  exact h2.symm
end Go.Tt
/-
 Chapter 10: conditions of Meets,Lack and Accept,proved.
-/
namespace Go.Tt
open Go Go.Sx
theorem v107 (x:(Option Market) × Int) (h:k107.pre x):V107 x:=by
 obtain ⟨⟨h0,hm⟩,hX⟩:=h
 have hl:(mkt x.1).2.2.length<=8:=by rw [hm.len];exact hm.m8
 refine ⟨h0,fun s=>0<=s.1/\s.1<=((mkt x.1).2.2.length:Int)/\∀ i:Nat,(i:Int)<s.1->s.2.1 (i:Nat)=some (touchB ((mkt x.1).2.2.getD i 0) x.2),fun s=>(((mkt x.1).2.2.length:Int) - s.1).toNat,⟨by simp,by simp,fun i hi=>(by exact absurd hi (by simp only;omega))⟩,?_⟩
 rintro ⟨i,f,g⟩ ⟨h1,h2,h3⟩
 simp only at h1 h2 h3 ⊢
 refine ⟨fun hi=>?_,fun hi=>?_⟩
 ·have hi:i<((mkt x.1).2.2.length:Int):=of_decide_eq_true hi
  have hs:=hm.serves _ (zdr (mkt x.1).2.2 0 i h1 hi)
  refine ⟨⟨h1,hi⟩,⟨hs.1,hX.1⟩,by simp only [Z.in64];omega,⟨by show 0<=i+1;omega,by show i+1<=((mkt x.1).2.2.length:Int);omega,fun j hj=>?_⟩,?_⟩
  ·show cond ((j:Int)==i) _ _=_
   by_cases e:(j:Int)=i
   ·subst e
    rw [beq_self_eq_true,cond_true]
    rfl
   ·rw [beq_eq_false_iff_ne.2 e,cond_false]
    exact h3 j (by omega)
  ·show (((mkt x.1).2.2.length:Int) - (i+1)).toNat<(((mkt x.1).2.2.length:Int) - i).toNat
   omega
 ·have hi:¬ i<((mkt x.1).2.2.length:Int):=of_decide_eq_false hi
  have p1:zbV ((mkt x.1).1,(⟨fun y=>zaD (x.2,y),fun y=>zaO (x.2,y)⟩:Fun Int Bool),(⟨zbi,zaU⟩:Fun Int Int)) :=
   ⟨hm.a8,fun k k0 k8=>⟨hX.1,k0,by show k<64;omega⟩,fun a ha=>⟨trivial,hm.asked a ha⟩⟩
  have p2:zbV ((mkt x.1).2.1,(⟨fun y=>zaI (y,f),fun y=>zaJ (y,f)⟩:Fun Int Bool),(⟨zbi,zaU⟩:Fun Int Int)) :=
   ⟨hm.m8,fun k k0 k8=>trivial,fun a ha=>⟨trivial,hm.many a ha⟩⟩
  have id1:∀ l:List Int,l.map zaU=l:=fun l=>by
   have:zaU=id:=rfl
   rw [this,List.map_id]
  have e1:zaN ((mkt x.1).1,(⟨fun y=>zaD (x.2,y),fun y=>zaO (x.2,y)⟩:Fun Int Bool),(⟨zbi,zaU⟩:Fun Int Int))=selS (fun k=>hasB x.2 (k:Nat)) (mkt x.1).1 0:=by
   show selS _ ((mkt x.1).1.map zaU) 0=_
   rw [id1];rfl
  have e2:zaN ((mkt x.1).2.1,(⟨fun y=>zaI (y,f),fun y=>zaJ (y,f)⟩:Fun Int Bool),(⟨zbi,zaU⟩:Fun Int Int))=selS (fun i=>touchB ((mkt x.1).2.2.getD i 0) x.2) (mkt x.1).2.1 0:=by
   show selS _ ((mkt x.1).2.1.map zaU) 0=_
   rw [id1]
   refine zhZ fun j hj=>?_
   show (f ((0+j:Nat):Int)).getD false=_
   rw [h3 (0+j) (by have:=hm.len;omega)];rfl
  have b1:=selS_bd (p:=fun k=>hasB x.2 (k:Nat)) (l:=(mkt x.1).1) (k:=0) hm.asked
  have b2:=selS_bd (p:=fun i=>touchB ((mkt x.1).2.2.getD i 0) x.2) (l:=(mkt x.1).2.1) (k:=0) hm.many
  have c1:=hm.a8
  have c2:=hm.m8
  refine ⟨h0,p1,h0,p2,?_,?_⟩
  ·show Z.in64 (zaN ((mkt x.1).1,_) - zaN ((mkt x.1).2.1,_))
   rw [e1,e2]
   simp only [Z.in64,topN] at b1 b2 ⊢
   omega
  ·show zaN ((mkt x.1).1,_) - zaN ((mkt x.1).2.1,_)=lackM (mkt x.1) x.2
   rw [e1,e2];rfl
theorem can_bit (sh rd:Int) (o:Order) (hs:0<=sh) (ho:0<=o.1) :
  (((((yby ((ydy sh (2^(yby (o.1)))))) &&& (yby (1)):Nat):Int)==1)&&decide ((rd:Int)<=o.2.2.1))=canB sh rd o:=by
 rw [has_div hs ho];rfl
theorem v101 (x:Sale × Truth) (h:k101.pre x):V101 x:=by
 obtain ⟨h1,h2,h3⟩:=h
 have S:=zeK.1 h1
 obtain ⟨⟨sup,ord⟩,many,ready,u⟩:=x
 have hs8:(sup.length:Int)<=8:=by have:=S.s8;simp only at this;omega
 have ho8:(ord.length:Int)<=8:=by have:=S.o8;simp only at this;omega
 have rm:∀ {n:Int},n<=100->Z.roomy 1 n:=fun hn=>zli (by decide) (by decide) (by omega)
 refine ⟨trivial,trivial,fun s=>0<=s.1/\s.1<=(ord.length:Int)/\s.2.1=([],[],[])/\s.2.2=(ord.take s.1.toNat).map (fun o=>o.2.1),fun s=>((ord.length:Int) - s.1).toNat,⟨by simp,by simp,rfl,rfl⟩,?_⟩
 rintro ⟨i,c,l⟩ ⟨i1,i2,e1,e2⟩
 simp only at i1 i2 e1 e2 ⊢
 subst e1;subst e2
 have hlen:((ord.take i.toNat).map (fun o:Order=>o.2.1)).length<=8:=by rw [ycL,ybo];omega
 refine ⟨fun hi=>?_,fun hi=>?_⟩
 ·have hi:=of_decide_eq_true hi
  refine ⟨⟨i1,hi⟩,rm (by rw [yao];simp;omega),by simp only [Z.in64];omega,trivial,trivial,⟨by show 0<=i+1;omega,by show i+1<=_;omega,rfl,(zft (fun o:Order=>o.2.1) ord (0,0,0,0) i i1 hi).symm⟩,?_⟩
  show ((ord.length:Int) - (i+1)).toNat<((ord.length:Int) - i).toNat
  omega
 ·have hi:=of_decide_eq_false hi
  have hfull:ord.take i.toNat=ord:=ybT (by omega)
  rw [hfull]
  refine ⟨fun s=>0<=s.1/\s.1<=(sup.length:Int)/\s.2.1=([],[],[])/\s.2.2.1=(sup.take s.1.toNat).map many.val/\s.2.2.2=(sup.take s.1.toNat).map (fun y=>setOf (ord.map (canB y.1 (ready.val y)))),fun s=>((sup.length:Int) - s.1).toNat,⟨by simp,by simp,rfl,rfl,rfl⟩,?_⟩
  rintro ⟨j,c,l,r⟩ ⟨j1,j2,e1,e2,e3⟩
  simp only at j1 j2 e1 e2 e3 ⊢
  subst e1;subst e2;subst e3
  have hl1:((sup.take j.toNat).map many.val).length<=8:=by rw [ycL,ybo];omega
  have hl2:((sup.take j.toNat).map (fun y=>setOf (ord.map (canB y.1 (ready.val y))))).length<=8:=by rw [ycL,ybo];omega
  refine ⟨fun hj=>?_,fun hj=>?_⟩
  ·have hj:=of_decide_eq_true hj
   obtain ⟨y,hy⟩:∃ y,y=sup.getD j.toNat (0,(0,0),0,0):=⟨_,rfl⟩
   have hym:y∈sup:=by rw [hy];exact zdr sup _ j j1 hj
   have hyo:=zfP.1 (S.sup y hym)
   rw [<-hy]
   refine ⟨⟨j1,hj⟩,fun s=>0<=s.2/\s.2<=(ord.length:Int)/\s.1=setOf ((ord.take s.2.toNat).map (canB y.1 (ready.val y))),fun s=>((ord.length:Int) - s.2).toNat,⟨by simp,by simp,rfl⟩,?_⟩
   rintro ⟨a,k⟩ ⟨k1,k2,k3⟩
   simp only at k1 k2 k3 ⊢
   have klen:((ord.take k.toNat).map (canB y.1 (ready.val y))).length<=8:=by rw [ycL,ybo];omega
   refine ⟨fun hk=>?_,fun hk=>?_⟩
   ·have hk:=of_decide_eq_true hk
    obtain ⟨o,ho⟩:∃ o,o=ord.getD k.toNat (0,0,0,0):=⟨_,rfl⟩
    have hom:o∈ord:=by rw [ho];exact zdr ord _ k k1 hk
    have hoo:=zhg.1 (S.ord o hom)
    have et:=zft (canB y.1 (ready.val y)) ord (0,0,0,0) k k1 hk
    rw [<-ho] at et ⊢
    refine ⟨⟨k1,hk⟩,⟨hoo.1.1,by have:=hoo.1.2;omega⟩,⟨?_,by decide⟩,fun _=>h3 y,fun hb=>?_,fun hb=>?_⟩
    ·rw [yaS _ (yaT (yaR (by decide)))]
     exact yaX hyo.1.1 (yaT (yaR (by decide)))
    ·rw [can_bit y.1 (ready.val y) o hyo.1.1 hoo.1.1] at hb
     have ha:=zgY klen
     rw [<-k3] at ha
     refine ⟨shl_ok k1 (by omega),⟨ha.1,pow_nn k⟩,by simp only [Z.in64];omega,?_,trivial,?_,?_,?_,⟨by show 0<=k+1;omega,by show k+1<=_;omega,?_⟩,?_⟩
     all_goals first | trivial | rfl | skip
     ·show (((a.toNat ||| (1*2^k.toNat:Int).toNat:Nat):Int))=setOf ((ord.take (k+1).toNat).map (canB y.1 (ready.val y)))
      rw [et,hb,k3]
      have e1:(1*2^k.toNat:Int).toNat=2^k.toNat:=by rw [ydD,pow_int];exact ydx _
      have e2:((ord.take k.toNat).map (canB y.1 (ready.val y))).length=k.toNat:=by rw [ycL,ybo];omega
      rw [e1]
      simp only [setOf,ydx]
      rw [<-setN_or,e2]
     ·show ((ord.length:Int) - (k+1)).toNat<((ord.length:Int) - k).toNat
      omega
    ·rw [can_bit y.1 (ready.val y) o hyo.1.1 hoo.1.1] at hb
     refine ⟨by simp only [Z.in64];omega,?_,trivial,?_,?_,?_,⟨by show 0<=k+1;omega,by show k+1<=_;omega,?_⟩,?_⟩
     all_goals first | trivial | rfl | skip
     ·show a=setOf ((ord.take (k+1).toNat).map (canB y.1 (ready.val y)))
      rw [et,hb,k3]
      simp only [setOf]
      rw [ziJ]
      simp [bitN]
     ·show ((ord.length:Int) - (k+1)).toNat<((ord.length:Int) - k).toNat
      omega
   ·have hk:=of_decide_eq_false hk
    have kfull:ord.take k.toNat=ord:=ybT (by omega)
    rw [kfull] at k3
    have e1:=zft many.val sup (0,(0,0),0,0) j j1 hj
    have e2:=zft (fun y=>setOf (ord.map (canB y.1 (ready.val y)))) sup (0,(0,0),0,0) j j1 hj
    rw [<-hy] at e1 e2
    refine ⟨h2 y,rm (by rw [yao];simp;omega),rm (by rw [yao];simp;omega),by simp only [Z.in64];omega,?_,⟨by show 0<=j+1;omega,by show j+1<=_;omega,trivial,e1.symm,?_⟩,?_⟩
    all_goals first | trivial | rfl | skip
    ·show _++[a]=_
     rw [e2,k3]
    ·show ((sup.length:Int) - (j+1)).toNat<((sup.length:Int) - j).toNat
     omega
  ·have hj:=of_decide_eq_false hj
   have jfull:sup.take j.toNat=sup:=ybT (by omega)
   rw [jfull]
   exact ⟨trivial,rfl⟩
theorem zjU {s:Sale} (h:saleB s=true) {many ready:Supply->Int} (hm:∀ x∈s.1,amount (many x)):MarketOk (marketV many ready s):=by
 have S:=zeK.1 h
 refine ⟨by simpa [marketV] using S.o8,by simpa [marketV] using S.s8,by simp [marketV],fun n hn=>?_,fun n hn=>?_,fun n hn=>?_⟩
 ·obtain ⟨o,ho,rfl⟩:=ycq.1 hn
  exact (zhg.1 (S.ord o ho)).2.1
 ·obtain ⟨o,ho,rfl⟩:=ycq.1 hn
  exact hm o ho
 ·obtain ⟨o,ho,rfl⟩:=ycq.1 hn
  exact zgY (by rw [ycL];exact S.o8)
theorem zkW {s:Sale} (h:saleB s=true):MarketOk (worstM s):=zjU h fun x hx=>by
 have:=zfP.1 ((zeK.1 h).sup x hx)
 exact ⟨this.2.1.1,yaV this.2.1.2.1 this.2.1.2.2⟩
theorem best_ok {s:Sale} (h:saleB s=true):MarketOk (bestM s):=zjU h fun x hx=>by
 have:=zfP.1 ((zeK.1 h).sup x hx)
 exact ⟨yaV this.2.1.1 this.2.1.2.1,this.2.1.2.2⟩
theorem zhH {n:Nat} (h:n<=8):smallSet (allV n):=by
 have h1:(2:Nat)^n<=2^8:=ydC (by decide) h
 have h2:0<2^n:=Nat.pow_pos (by decide)
 have:(2^n:Int)=((2^n:Nat):Int):=by simp
 simp only [smallSet,allV,this]
 omega
theorem v41 (x:Sale) (_:k41.pre x):V41 x:=by
 refine ⟨trivial,fun h=>?_,fun h=>?_⟩
 ·have h:saleB x=false:=by simpa using (show (!saleB x)=true from h)
  show _=zan x
  rw [zan,h];rfl
 ·have h:saleB x=true:=by simpa using (show (!saleB x)=false from h)
  have hw:=zkW h
  have hb:=best_ok h
  have o8:=(zeK.1 h).o8
  have eM:zan x=cond (meetsM (worstM x) (allV x.2.length)) (2,0) (cond (meetsM (bestM x) (allV x.2.length)) (1,0) (0,0)):=by rw [zan,h];rfl
  have l1:(worstM x).1.length=x.2.length:=by simp [worstM,marketV]
  have l2:(bestM x).1.length=x.2.length:=by simp [bestM,marketV]
  refine ⟨fun s=>(s=0)\/(s=1/\meetsM (worstM x) (allV x.2.length)=false)\/(s=2/\meetsM (worstM x) (allV x.2.length)=false/\meetsM (bestM x) (allV x.2.length)=false),fun s=>(2 - s).toNat,.inl rfl,?_⟩
  have hwm:zaA (zac (x,worstT),zay (zac (x,worstT)))=meetsM (worstM x) (allV x.2.length):=by
   show meetsM (worstM x) (allV (worstM x).1.length)=_
   rw [l1]
  have hbm:zaA (zac (x,bestT),zay (zac (x,bestT)))=meetsM (bestM x) (allV x.2.length):=by
   show meetsM (bestM x) (allV (bestM x).1.length)=_
   rw [l2]
  rintro s (rfl | ⟨rfl,hf⟩ | ⟨rfl,hf,hg⟩)
  ·refine ⟨fun _=>⟨⟨by decide,by decide⟩,⟨h,fun _=>trivial,fun _=>trivial⟩,⟨rfl,hw⟩,⟨⟨rfl,hw⟩,zhH (show (worstM x).1.length<=8 from by rw [l1];exact o8)⟩,fun hh=>⟨by simp only [Z.in64];omega,?_⟩,fun hh=>⟨by simp only [Z.in64];omega,rfl,⟨.inr (.inl ⟨rfl,?_⟩),by decide⟩⟩⟩,fun hh=>(by cases hh)⟩
   ·have hh:=hwm.symm.trans hh
    rw [eM,hh];rfl
   ·exact hwm.symm.trans hh
  ·refine ⟨fun _=>⟨⟨by decide,by decide⟩,⟨h,fun _=>trivial,fun _=>trivial⟩,⟨rfl,hb⟩,⟨⟨rfl,hb⟩,zhH (show (bestM x).1.length<=8 from by rw [l2];exact o8)⟩,fun hh=>⟨by simp only [Z.in64];omega,?_⟩,fun hh=>⟨by simp only [Z.in64];omega,rfl,⟨.inr (.inr ⟨rfl,hf,?_⟩),by decide⟩⟩⟩,fun hh=>(by cases hh)⟩
   ·have hh:=hbm.symm.trans hh
    rw [eM,hf,hh];rfl
   ·exact hbm.symm.trans hh
  ·refine ⟨fun hh=>(by cases hh),fun _=>?_⟩
   rw [eM,hf,hg];rfl
theorem v46 (x:Sale) (_:k46.pre x):V46 x:=by
 refine ⟨trivial,fun h=>?_,fun h=>?_⟩
 ·have h:saleB x=false:=by simpa using (show (!saleB x)=true from h)
  show _=zaE x
  rw [zaE,h];rfl
 ·have h:saleB x=true:=by simpa using (show (!saleB x)=false from h)
  have hw:=zkW h
  have S:=zeK.1 h
  have o8:=S.o8
  have l1:(worstM x).1.length=x.2.length:=by simp [worstM,marketV]
  have has:smallSet (allV x.2.length):=zhH o8
  have ha:zay (zac (x,worstT))=allV x.2.length:=by
   show allV (worstM x).1.length=_
   rw [l1]
  have eA:zaE x=((acceptV (priceV x.2) (meetsM (worstM x)) (partsV (allV x.2.length))).1,(acceptV (priceV x.2) (meetsM (worstM x)) (partsV (allV x.2.length))).2,0):=by rw [zaE,h];rfl
  refine ⟨⟨h,fun _=>trivial,fun _=>trivial⟩,⟨rfl,hw⟩,trivial,by rw [ha];exact has,fun l b=>(∀ y∈l,smallSet y)/\acceptV (priceV x.2) (meetsM (worstM x)) (partsV (allV x.2.length))=l.foldl (fun b y=>cond (decide (b.2<priceV x.2 y)&&meetsM (worstM x) y) (y,priceV x.2 y) b) b,⟨fun y hy=>zhe has (by rw [<-ha];exact hy),?_⟩,?_,?_⟩
  ·rw [ha];rfl
  ·rintro e r b ⟨h1,h3⟩
   have he:=h1 e yam
   have hr:=fun y hy=>h1 y (yal e hy)
   rw [List.foldl_cons] at h3
   refine ⟨⟨o8,fun k k0 k8=>⟨he.1,k0,by show k<64;omega⟩,fun o ho=>⟨trivial,?_⟩⟩,fun _=>⟨⟨rfl,hw⟩,he⟩,fun hb=>⟨rfl,hr,?_⟩,fun hb=>⟨rfl,hr,?_⟩⟩
   ·have:=zhg.1 (S.ord o ho)
    exact ⟨this.2.2.2.1,by have:=this.2.2.2.2;simp only [topN,zbm];omega⟩
   ·have hb:(decide (b.2<priceV x.2 e)&&meetsM (worstM x) e)=true:=hb
    rw [hb,cond_true] at h3;exact h3
   ·have hb:(decide (b.2<priceV x.2 e)&&meetsM (worstM x) e)=false:=hb
    rw [hb,cond_false] at h3;exact h3
  ·rintro ⟨a,n⟩ ⟨_,h3⟩
   have h3:acceptV (priceV x.2) (meetsM (worstM x)) (partsV (allV x.2.length))=(a,n):=h3
   show (a,n,(0:Int))=zaE x
   rw [eA,h3]
end Go.Tt
/-
 Chapter 10: conditions of the flow's functions,proved.
-/
namespace Go.Tt
open Go Go.Sx
theorem v87 (x:List Int) (h:k87.pre x):V87 x:=by
 have h:x.length<=1000:=h
 have e:(yaa 0 (0:Int))++x=x:=rfl
 refine ⟨trivial,fun hx=>⟨fun _=>?_,fun h=>(by cases h)⟩,fun h=>(by cases h),fun _=>⟨zli (by decide) (by decide) (by rw [e];omega),rfl⟩⟩
 exact hx.symm
end Go.Tt
/-
 Chapter 10: the conditions of push and fill,proved.
-/
namespace Go.Tt
open Go Go.Sx
end Go.Tt
/-
 Chapter 10: the conditions of fill and Share,proved.
-/
namespace Go.Tt
open Go Go.Sx
structure ShareOk (m:Market) (c:List Int):Prop where
 mo:MarketOk m
 c8:c.length=8
 cs:∀ s∈c,smallSet s
end Go.Tt
/-
 Chapter 10: the condition of Share,proved.
-/
namespace Go.Tt
open Go Go.Sx
end Go.Tt
/-
 Chapter 10: conditions of the examples,proved.
-/
namespace Go.Tt
open Go Go.Sx
end Go.Tt
