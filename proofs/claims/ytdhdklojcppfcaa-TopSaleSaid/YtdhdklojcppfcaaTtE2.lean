/-
  TopSale: the statement's condition.
-/
import Derived.Test.YtdhdklojcppfcaaTtE1
set_option linter.all false
set_option maxRecDepth 100000
set_option maxHeartbeats 4000000
set_option linter.unusedVariables false
open Bool renaming or_eq_false_iff->ydW
open List renaming length_map->ycK,map_append->ycn
open Nat renaming le_refl->yag,zero_le->ybr
namespace Go.Tt
open Go Go.Sx
theorem zhH {T:Int} {f:Nat->Int}:∀ (n:Nat),(∀ i,i<n->f i<=T)->sumN n f<=n*T
 | 0,_=>by simp [sumN]
 | n+1,h=>by
  have h1:=zhH n fun i hi=>h i (by omega)
  have h2:=h n (by omega)
  rw [zaq]
  have:((n+1:Nat):Int)*T=(n:Int)*T+T:=by rw [Int.natCast_add,Int.add_mul];simp
  omega
theorem roomyE {α:Type} {k:Nat} (hk:0<k/\k<=8) {l:List α} (h:l.length<=8) (y:α):Z.roomy k ((l++[y]).length:Int):=by
 simp only [Z.roomy,List.length_append,List.length_singleton]
 have h9:l.length+1<=9:=by omega
 have hk':k=1\/k=2\/k=3\/k=4\/k=5\/k=6\/k=7\/k=8:=by omega
 rcases hk' with rfl | rfl | rfl | rfl | rfl | rfl | rfl | rfl<;>omega
theorem v7 (x:SaleIn) (_:k7.pre x):V7 x:=by
 obtain ⟨need,l,b⟩:=x
 refine ⟨trivial,fun _=>⟨trivial,rfl⟩,fun hg=>?_⟩
 rw [ydW,ydW] at hg
 have hv:boxB need l=true:=not_iff.2.1 hg.1.1
 have h0:0<=b:=by have:¬ b<0:=of_decide_eq_false hg.1.2;omega
 have h1:b<=21845:=by have:¬ 21845<b:=of_decide_eq_false hg.2;omega
 clear hg
 have hbox:=box_iff.1 hv
 have hn8:=hbox.n8
 have hl8:=hbox.l8
 have hnd:∀ k,k<need.length->0<=b*need.getD k 0/\b*need.getD k 0<=1048560:=fun k hk=>by
  have g:=hbox.nd _ (zan need 0 k hk)
  have m2:b*need.getD k 0<=21845*48:=Int.mul_le_mul h1 g.2 g.1 (by decide)
  exact ⟨Int.mul_nonneg h0 g.1,by omega⟩
 refine ⟨fun t=>∃ i:Nat,t.1=(i:Int)/\i<=l.length/\t.2.2=(l.take i).map supE,fun t=>((l.length:Int) - t.1).toNat,⟨0,rfl,ybr _,rfl⟩,?_⟩
 rintro ⟨i',junk,sup⟩ ⟨i,ei,hi,es⟩
 simp only at ei es
 subst ei
 refine ⟨fun hlt=>?_,fun hlt=>?_⟩
 ·have hlt:(i:Int)<(l.length:Int):=of_decide_eq_true hlt
  have hil:i<l.length:=by omega
  have hii:(0:Int)<=(i:Int)/\(i:Int)<(l.length:Int):=⟨by omega,hlt⟩
  refine ⟨hii,hii,hii,roomyE ⟨by decide,by decide⟩ (by show sup.length<=8;rw [es,ycK,List.length_take];omega) _,by simp only [Z.in64];omega,by first | rfl | trivial,⟨i+1,rfl,hil,?_⟩,?_⟩
  ·show sup++[_]=_
   have e1:l.take (i+1)=l.take i++[l.getD i noP]:=by
    rw [List.take_succ_eq_append_getElem hil];simp [List.getD,hil]
   rw [e1,ycn,<-es];rfl
  ·show ((l.length:Int) - ((i:Int)+1)).toNat<((l.length:Int) - (i:Int)).toNat
   omega
 have hlt:¬ (i:Int)<(l.length:Int):=of_decide_eq_false hlt
 have:i=l.length:=by omega
 subst this
 rw [List.take_length] at es
 refine ⟨fun t=>∃ k:Nat,t.2.1=(k:Int)/\k<=need.length/\t.2.2.2=(List.range k).map (ordE need b)/\t.1=sumN k fun k=>b*need.getD k 0,fun t=>((need.length:Int) - t.2.1).toNat,⟨0,rfl,ybr _,rfl,rfl⟩,?_⟩
 rintro ⟨asked,k',junk2,ol⟩ ⟨k,ek,hk,eo,ea⟩
 simp only at ek eo ea
 subst ek
 have hs0:=zbc (n:=k) (f:=fun k=>b*need.getD k 0) fun i hi=>(hnd i (by omega)).1
 have hs1:=zhH (T:=1048560) (f:=fun k=>b*need.getD k 0) k fun i hi=>(hnd i (by omega)).2
 rw [<-ea] at hs0 hs1
 refine ⟨fun hlt2=>?_,fun hlt2=>?_⟩
 ·have hlt2:(k:Int)<(need.length:Int):=of_decide_eq_true hlt2
  have hkn:k<need.length:=by omega
  have hkk:(0:Int)<=(k:Int)/\(k:Int)<(need.length:Int):=⟨by omega,hlt2⟩
  have hm:=hnd k hkn
  have hin:Z.in64 (b*need.getD (Int.toNat (k:Int)) 0):=by
   show Z.in64 (b*need.getD k 0)
   simp only [Z.in64];omega
  refine ⟨hkk,hin,roomyE ⟨by decide,by decide⟩ (by show ol.length<=8;rw [eo,ycK,List.length_range];omega) _,hkk,hin,?_,by simp only [Z.in64];omega,by first | rfl | trivial,⟨k+1,rfl,hkn,?_,?_⟩,?_⟩
  ·show Z.in64 (asked+b*need.getD k 0)
   simp only [Z.in64];omega
  ·show ol++[_]=_
   rw [List.range_succ,ycn,<-eo];rfl
  ·show asked+b*need.getD k 0=_
   rw [zaq,<-ea]
  ·show ((need.length:Int) - ((k:Int)+1)).toNat<((need.length:Int) - (k:Int)).toNat
   omega
 have hlt2:¬ (k:Int)<(need.length:Int):=of_decide_eq_false hlt2
 have:k=need.length:=by omega
 subst this
 have hSale:(sup,ol)=saleE need l b:=by rw [es,eo];rfl
 have hok:=zpG hbox h0 h1
 have hMk:=zhF hok
 obtain ⟨X,eM,_,_,hcan⟩:=most_is hbox
 have hcanb:=hcan b h0
 generalize mostB (need,l)=B at eM hcan hcanb
 have hmw:=znX (need:=need) (l:=l) (b:=b)
 have hmc:=zoS (need:=need) (l:=l) (b:=b)
 have htop:=zpB hMk
 have hlen:(saleE need l b).2.length=need.length:=by simp [saleE]
 have eMeets:zaE (saleE need l b)=cond (canF (timesV need b) l) (2,0) (0,0):=by
  rw [zaE,hok,cond_true,znB,hlen,hmc]
  cases canF (timesV need b) l<;>rfl
 have eShare:zau (saleE need l b)=(shareV (worstM (saleE need l b)),0):=by rw [zau,hok];rfl
 have hchk:(zam (need,l,b)==0)=true:=by
  rw [zam,hv,show inB b 0 topN=true from inB_iff.2 ⟨h0,by show b<=1048576;omega⟩];rfl
 have eLack:zbp (need,l,b)=cond ((lackB (timesV need b) l).2==0) (0,0,4) ((lackB (timesV need b) l).1,(lackB (timesV need b) l).2,0):=by
  rw [zbp,hchk];rfl
 have eFill:(zbq (need,l,b)).2=cond (canF (timesV need b) l) 0 10:=by
  rw [zbq,hchk,cond_true]
  cases canF (timesV need b) l<;>rfl
 have hLk:=lack_is hok
 have hLn:(zao (saleE need l b)).2.1=(lackB (timesV need b) l).2:=by
  rw [<-hmw,zao,hok,cond_true,hlen,zix]
  cases h:(mostV (lackM (worstM (saleE need l b))) (setsTo (2^need.length))==(0,0)) with
  | true=>rw [eq_of_beq h];rfl
  | false=>rfl
 have hmN:(worstM (saleE need l b)).1.length=need.length:=zmK
 have hmM:(worstM (saleE need l b)).2.1.length=l.length:=wE_many
 have hAsk:askedS (worstM (saleE need l b))=asked:=by
  rw [askedS,hmN,ea]
  exact zaA fun k hk=>wE_ask hk
 rw [hmN,hmw,hAsk] at htop
 have hR:=ziq hMk
 obtain ⟨hF,hV,_⟩:=zkW _ _ _ hR
 have hF:IsFlow (worstM (saleE need l b)) (opF (worstM (saleE need l b)) c0) (shareG (worstM (saleE need l b))):=hF
 have hV:valF (worstM (saleE need l b)) (shareG (worstM (saleE need l b)))=topV (worstM (saleE need l b)) c0:=hV
 have hcell:∀ i k,i<l.length->k<need.length->((shareV (worstM (saleE need l b))).getD i []).getD k 0=shareG (worstM (saleE need l b)) i k:=fun i k hi hk=>zoF _ (by omega) (by omega)
 have hSl:(shareV (worstM (saleE need l b))).length=l.length:=by rw [zju,hmM]
 have hSr:∀ i,i<l.length->((shareV (worstM (saleE need l b))).getD i []).length=need.length:=fun i hi=>by rw [znO (by omega),hmN]
 have hval:(sumN l.length fun i=>sumN need.length fun k=>shareG (worstM (saleE need l b)) i k)=asked - (lackB (timesV need b) l).2:=by
  rw [<-htop,<-hV,valF,hmM,hmN]
 have hG0:∀ i k,0<=shareG (worstM (saleE need l b)) i k:=fun i k=>hF.pos i k
 have hG1:∀ i k,i<l.length->k<need.length->shareG (worstM (saleE need l b)) i k<=1048576:=fun i k hi hk=>by
  have g1:=(znl hF (i:=i) (k:=k) (by omega) (by omega)).1
  have g2:=(hMk.many _ (zan _ 0 i (by omega:i<(worstM (saleE need l b)).2.1.length))).2
  simp only [topN] at g2
  exact Int.le_trans g1 g2
 generalize shareG (worstM (saleE need l b))=G at hcell hval hG0 hG1
 generalize hSV:shareV (worstM (saleE need l b))=SV at eShare hcell hSl hSr
 obtain ⟨W,hW⟩:∃ W,W=lackB (timesV need b) l:=⟨_,rfl⟩
 have hWn:0<=W.2:=by rw [hW];exact (zkC _ _).nn
 have hc:canF (timesV need b) l=(W.2==0):=by rw [hW];rfl
 rw [<-hW] at eLack hLn hval
 rw [hc] at eMeets eFill hcanb
 dsimp only
 simp only [hSale,eM,eMeets,eShare,eFill]
 refine ⟨trivial,trivial,trivial,trivial,trivial,trivial,fun hb=>?_,fun _=>?_⟩
 ·exfalso
  have hdec:decide (b<=B)=(W.2==0):=ze (by rw [decide_eq_true_eq];exact hcanb.symm)
  rw [hdec,hSl] at hb
  have:(((l.length:Int))==(l.length:Int))=true:=beq_self_eq_true _
  rw [this] at hb
  cases hw:(W.2==0)<;>rw [hw] at hb<;>cases hb
 have hrow0:∀ i,i<l.length->∀ k,k<=need.length->0<=sumN k (fun k=>G i k)/\sumN k (fun k=>G i k)<=8388608:=fun i hi k hk=>by
  refine ⟨zbc fun k _=>hG0 i k,?_⟩
  have:=zhH (T:=1048576) (f:=fun k=>G i k) k fun k' hk'=>hG1 i k' hi (by omega)
  have:(k:Int)*1048576<=8388608:=by omega
  omega
 have hall0:∀ i,i<=l.length->0<=(sumN i fun i=>sumN need.length fun k=>G i k)/\(sumN i fun i=>sumN need.length fun k=>G i k)<=67108864:=fun i hi=>by
  refine ⟨zbc fun i' h'=>(hrow0 i' (by omega) _ (yag _)).1,?_⟩
  have:=zhH (T:=8388608) (f:=fun i=>sumN need.length fun k=>G i k) i fun i' h'=>(hrow0 i' (by omega) _ (yag _)).2
  have:(i:Int)*8388608<=67108864:=by omega
  omega
 have hask9:asked<=8388480:=by
  have:(need.length:Int)*1048560<=8388480:=by omega
  omega
 refine ⟨fun t=>∃ i:Nat,t.2=(i:Int)/\i<=l.length/\t.1=asked - sumN i fun i=>sumN need.length fun k=>G i k,fun t=>((l.length:Int) - t.2).toNat,⟨0,rfl,ybr _,by show asked=asked - 0;omega⟩,?_⟩
 rintro ⟨a,i'⟩ ⟨i,ei,hi,ea2⟩
 simp only at ei ea2
 subst ei
 have hA:=hall0 i hi
 refine ⟨fun hlt3=>?_,fun hlt3=>?_⟩
 ·have hlt3:=of_decide_eq_true hlt3
  rw [hSl] at hlt3
  have hil:i<l.length:=by have:(i:Int)<(l.length:Int):=hlt3;omega
  refine ⟨⟨by omega,by rw [hSl];exact hlt3⟩,fun t=>∃ k:Nat,t.2=(k:Int)/\k<=need.length/\t.1=a - sumN k fun k=>G i k,fun t=>((need.length:Int) - t.2).toNat,⟨0,rfl,ybr _,by show a=a - 0;omega⟩,?_⟩
  rintro ⟨a2,k'⟩ ⟨k,ek,hk,ea3⟩
  simp only at ek ea3
  subst ek
  have hB:=hrow0 i hil k hk
  simp only [Int.toNat_natCast]
  refine ⟨fun hlt4=>?_,fun hlt4=>?_⟩
  ·have hlt4:=of_decide_eq_true hlt4
   rw [hSr i hil] at hlt4
   have hkn:k<need.length:=by omega
   have hg0:=hG0 i k
   have hg1:=hG1 i k hil hkn
   rw [hcell i k hil hkn]
   refine ⟨⟨by omega,by rw [hSr i hil];exact hlt4⟩,by simp only [Z.in64];omega,by simp only [Z.in64];omega,by first | rfl | trivial,by first | rfl | trivial,by first | rfl | trivial,⟨k+1,rfl,hkn,?_⟩,?_⟩
   ·show a2 - G i k=_
    rw [zaq,ea3];omega
   ·show ((need.length:Int) - ((k:Int)+1)).toNat<((need.length:Int) - (k:Int)).toNat
    omega
  ·have hlt4:=of_decide_eq_false hlt4
   rw [hSr i hil] at hlt4
   have:k=need.length:=by omega
   subst this
   refine ⟨by simp only [Z.in64];omega,by first | rfl | trivial,by first | rfl | trivial,by first | rfl | trivial,⟨i+1,rfl,hil,?_⟩,?_⟩
   ·show a2=_
    rw [zaq,ea3,ea2];omega
   ·show ((l.length:Int) - ((i:Int)+1)).toNat<((l.length:Int) - (i:Int)).toNat
    omega
 ·have hlt3:=of_decide_eq_false hlt3
  rw [hSl] at hlt3
  have:i=l.length:=by omega
  subst this
  rw [hval] at ea2
  have haW:a=W.2:=by omega
  refine ⟨fun _=>trivial,?_⟩
  rw [eLack,hLn,haW]
  have hbb:(W.2==W.2)=true:=beq_self_eq_true _
  rcases hLk.f with ⟨g1,g2⟩ | ⟨g1,g2⟩
  ·rw [hLn] at g1
   have hw:(W.2==0)=false:=by rw [beq_eq_false_iff_ne];omega
   rw [g2,hw]
   show (((0:Int)==0&&(W.2==W.2))&&(W.2==W.2)&&true)=true
   rw [hbb];rfl
  ·rw [hLn] at g1
   rw [g2,g1];rfl
end Go.Tt
