/-
  Box: Fill's condition, and what it gives.
-/
import Derived.Test.YtdhdklojcppfcaaTtBP5
set_option linter.all false
set_option maxRecDepth 100000
set_option maxHeartbeats 4000000
set_option linter.unusedVariables false
open Int renaming le_refl->ydz,toNat->yby
open List renaming length_drop->ybJ,length_map->ycK,length_range->ydP,range->yaf,replicate->yaa
open Nat renaming sub_self->ydr,zero_le->ybr
namespace Go.Tt
open Go Go.Sx
theorem v26 (x:(List Int) × (List Pile) × Int) (_:k26.pre x):V26 x:=by
 refine ⟨trivial,fun h=>?_,fun h=>?_⟩
 ·have h:(zam x==0)=false:=not_iff.1.1 h
  show ([],zam x)=zbq x
  rw [zbq,h];rfl
 have hc:(zam x==0)=true:=not_iff.2.1 h
 obtain ⟨hb,h0,h1⟩:=zns (eq_of_beq hc)
 have h1':x.2.2<=8388609:=by simp only [topN] at h1;omega
 refine ⟨⟨hb.n8,hb.nd,h0,h1'⟩,hb.ok h0 h1',fun h=>?_,fun h=>?_⟩
 ·have h:canF (timesV x.1 x.2.2) x.2.1=false:=not_iff.1.1 h
  show ([],10)=zbq x
  rw [zbq,hc,h];rfl
 have hcan:canF (timesV x.1 x.2.2) x.2.1=true:=not_iff.2.1 h
 have hval:zbq x=((yaf x.2.1.length).map fun i=>((fillAll x).getD i zRow).take x.1.length,0):=by rw [zbq,hc,hcan];rfl
 have hst:=zob hb h0 h1'
 have hpk:=pack_ok hb.n8 hb.l8 hb.small hst
 have h8:=hb.n8
 have l8:=hb.l8
 refine ⟨fun s=>∃ i:Nat,s.1=(i:Int)/\i<=x.2.1.length/\s.2=packV x.1 x.2.1 i (sold0,timesV x.1 x.2.2),fun s=>((x.2.1.length:Int) - s.1).toNat,⟨0,rfl,ybr _,rfl⟩,?_⟩
 rintro ⟨i',sl⟩ ⟨i,rfl,hi,hs⟩
 simp only at hs ⊢
 subst hs
 have hp:=hpk i hi
 refine ⟨fun hd=>?_,fun hd=>?_⟩
 ·have hd:(i:Int)<(x.2.1.length:Int):=of_decide_eq_true hd
  have hil:i<x.2.1.length:=by omega
  have hF:=hp.fill l8 hb.small hil
  have e0:(x.2.1.drop (yby (i:Int)))=x.2.1.drop i:=rfl
  have hlen:((x.2.1.drop i).length:Int)=(x.2.1.length:Int) - i:=by rw [ybJ];omega
  refine ⟨⟨by omega,by omega⟩,?_,⟨ydz _,?_⟩,?_⟩
  ·show (x.2.1.drop i).length<=big
   rw [ybJ];simp only [big];omega
  ·show (0:Int)<((x.2.1.drop i).length:Int)
   omega
  generalize hS:packV x.1 x.2.1 i (sold0,timesV x.1 x.2.2)=S at hp hF
  have hrow:=hF.row h8 (i:=i) (by omega) rfl hp.sold
  refine ⟨fun s=>∃ k:Nat,s.1=(k:Int)/\k<=x.1.length/\s.2=fillRow (i:Nat) k (S.1,S.2,x.2.1.drop i),fun s=>((x.1.length:Int) - s.1).toNat,⟨0,rfl,ybr _,rfl⟩,?_⟩
  rintro ⟨k',st⟩ ⟨k,rfl,hk,hs⟩
  simp only at hs ⊢
  have hfk:=(hrow k hk).1
  rw [<-hs] at hfk
  refine ⟨fun hd2=>?_,fun hd2=>?_⟩
  ·have hd2:(k:Int)<(x.1.length:Int):=of_decide_eq_true hd2
   have hkl:k<x.1.length:=by omega
   have hm:=hfk.rp _ (zan st.2.2 noP 0 (by have:=hfk.r1;omega))
   have hnext:fillRow (i:Nat) (k+1) (S.1,S.2,x.2.1.drop i)=fillStep (i:Nat) (k:Nat) st:=by rw [zmZ,hs]
   refine ⟨⟨hm.1.1,by show (0:Int)<=(k:Nat);omega,by show ((k:Nat):Int)<64;omega⟩,fun hh=>⟨by simp only [Z.in64];omega,by first | rfl | trivial,by first | rfl | trivial,⟨k+1,by simp,by omega,?_⟩,?_⟩,fun hh=>?_⟩
   ·have hh:hasB (st.2.2.getD (yby 0) noP).1 (k:Nat)=false:=not_iff.1.1 hh
    rw [hnext,fillStep,hh];rfl
   ·show ((x.1.length:Int) - (k+1)).toNat<((x.1.length:Int) - k).toNat
    omega
   ·have hh:hasB (st.2.2.getD (yby 0) noP).1 (k:Nat)=true:=not_iff.2.1 hh
    obtain ⟨g0,g1,g2,g3⟩:=hfk.num h8 hkl
    obtain ⟨o1,o2,o3⟩:=hfk.off (k:Nat)
    have hl:=hfk.lb _ (zan st.2.1 0 k (by rw [hfk.ln];exact hkl))
    have hm2:=hm.2
    have hkL:((0:Int)<=(k:Int))/\(k:Int)<(st.2.1.length:Int):=⟨by omega,by rw [hfk.ln];exact hd2⟩
    simp only [amount,topN,most40] at hm2 hl
    refine ⟨shl_ok (by omega) (by omega),⟨hm.1.1,pow_nn _⟩,hkL,g0,⟨by omega,by omega⟩,⟨by omega,by omega⟩,hkL,?_,hkL,?_,by simp only [Z.in64];omega,by first | rfl | trivial,by first | rfl | trivial,⟨k+1,by simp,by omega,?_⟩,?_⟩
    ·show Z.in64 (st.2.1.getD k 0 - numF st.2.1 (k:Nat) (offP' (k:Nat) st.2.2))
     simp only [Z.in64];omega
    ·show Z.in64 (((offP' (k:Nat) st.2.2).getD 0 noP).2 - numF st.2.1 (k:Nat) (offP' (k:Nat) st.2.2))
     rw [o3]
     simp only [Z.in64];omega
    ·rw [hnext,fillStep,hh];rfl
    ·show ((x.1.length:Int) - (k+1)).toNat<((x.1.length:Int) - k).toNat
     omega
  ·have hd2:¬ (k:Int)<(x.1.length:Int):=of_decide_eq_false hd2
   have hkn:k=x.1.length:=by omega
   subst hkn
   refine ⟨by simp only [Z.in64];omega,by first | rfl | trivial,⟨i+1,by simp,by omega,?_⟩,?_⟩
   ·rw [zlF,hS,<-hs]
   ·show ((x.2.1.length:Int) - (i+1)).toNat<((x.2.1.length:Int) - i).toNat
    omega
 ·have hd:¬ (i:Int)<(x.2.1.length:Int):=of_decide_eq_false hd
  have hin:i=x.2.1.length:=by omega
  subst hin
  have hall:(packV x.1 x.2.1 x.2.1.length (sold0,timesV x.1 x.2.2)).1=fillAll x:=rfl
  have hd8:=hp.d8
  have hdr:=hp.dr
  rw [hall] at hd8 hdr
  obtain ⟨F,hF⟩:∃ F:Nat->List Int,F=fun i=>((fillAll x).getD i zRow).take x.1.length:=⟨_,rfl⟩
  refine ⟨⟨⟨by omega,ydz _⟩,by simp only [Z.roomy];omega⟩,?_⟩
  refine ⟨fun s=>∃ m:Nat,s.1=(m:Int)/\m<=x.2.1.length/\s.2=(yaf m).map F++yaa (x.2.1.length - m) ([]:List Int),fun s=>((x.2.1.length:Int) - s.1).toNat,⟨0,rfl,ybr _,rfl⟩,?_⟩
  rintro ⟨m',o⟩ ⟨m,rfl,hm,ho⟩
  simp only at ho ⊢
  have hol:o.length=x.2.1.length:=by rw [ho,List.length_append,ycK,ydP,List.length_replicate];omega
  have hrl:((yaa (yby (x.2.1.length:Int)) ([]:List Int)).length:Int)=(x.2.1.length:Int):=by simp
  refine ⟨fun hd2=>?_,fun hd2=>?_⟩
  ·have hd2:=of_decide_eq_true hd2
   rw [hrl] at hd2
   have e1:(packV x.1 x.2.1 x.2.1.length (sold0,timesV x.1 x.2.2)).1.getD m zRow=(fillAll x).getD m zRow:=rfl
   have hrow:((fillAll x).getD m zRow).length=8:=hdr _ (zan _ _ m (by omega))
   refine ⟨⟨by omega,by omega⟩,⟨by omega,by omega⟩,?_,⟨by omega,by omega⟩,by simp only [Z.in64];omega,by first | rfl | trivial,by first | rfl | trivial,by first | rfl | trivial,⟨m+1,by simp,by omega,?_⟩,?_⟩
   ·show (((fillAll x).getD m zRow).take x.1.length).length<=1000
    rw [List.length_take];omega
   ·show o.set m (((fillAll x).getD m zRow).take x.1.length)=_
    rw [ho,List.set_append_right _ _ (by simp),ycK,ydP,ydr,List.range_succ,List.map_append,List.append_assoc]
    obtain ⟨q,hq⟩:∃ q,x.2.1.length - m=q+1:=⟨x.2.1.length - m - 1,by omega⟩
    rw [hq,List.replicate_succ,show x.2.1.length - (m+1)=q from by omega,hF]
    rfl
   ·show ((x.2.1.length:Int) - (m+1)).toNat<((x.2.1.length:Int) - m).toNat
    omega
  ·have hd2:=of_decide_eq_false hd2
   rw [hrl] at hd2
   have hmn:m=x.2.1.length:=by omega
   subst hmn
   show (o,0)=zbq x
   rw [hval,ho,ydr,hF]
   simp
end Go.Tt
