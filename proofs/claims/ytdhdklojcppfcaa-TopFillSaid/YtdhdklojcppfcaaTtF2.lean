/-
  TopFill: the statement's condition.
-/
import Derived.Test.YtdhdklojcppfcaaTtF1
set_option linter.all false
set_option maxRecDepth 100000
set_option maxHeartbeats 4000000
set_option linter.unusedVariables false
namespace Go.Tt
open Go Go.Sx
theorem v4 (x:FillIn) (_:k4.pre x):V4 x:=by
 obtain ⟨c,l,s,need⟩:=x
 refine ⟨fun _=>⟨trivial,rfl⟩,fun hg=>?_⟩
 rw [Bool.or_eq_false_iff,Bool.or_eq_false_iff] at hg
 have hl8:l.length<=8:=by have:¬ (8:Int)<(l.length:Int):=of_decide_eq_false hg.1.1;omega
 have hs8:s.length<=8:=by have:¬ (8:Int)<(s.length:Int):=of_decide_eq_false hg.1.2;omega
 have hns:need.length=s.length:=by
  have:(((need.length:Int))==(s.length:Int))=true:=not_iff.2.1 hg.2
  have:=eq_of_beq this
  omega
 clear hg
 refine ⟨fun t=>∃ i:Nat,t.2.1=(i:Int)∧i<=l.length∧t.1.length=i∧t.2.2.2.length=i∧(∀ a,a<i->PileIs c s (l.getD a noL) (t.1.getD a noP))∧∀ a,a<i->t.2.2.2.getD a (0,0)=blackB (c,l.getD a noL),
  fun t=>((l.length:Int) - t.2.1).toNat,⟨0,rfl,by omega,rfl,rfl,fun a h=>by omega,fun a h=>by omega⟩,?_⟩
 rintro ⟨P,i',junk,B⟩ ⟨i,ei,hi,hPl,hBl,hP,hB⟩
 simp only at ei hPl hBl hP hB
 subst ei
 refine ⟨fun hlt=>?_,fun hlt=>?_⟩
 ·have hlt:=of_decide_eq_true hlt
  have hlt:i<l.length:=by have:(i:Int)<(l.length:Int):=hlt;omega
  obtain ⟨ld,hld⟩:∃ ld,ld=l.getD i noL:=⟨_,rfl⟩
  have eld:ldF (c,l,s,need) (i:Int)=ld:=hld.symm
  have hii:(0:Int)<=(i:Int)∧(i:Int)<(l.length:Int):=⟨by omega,by omega⟩
  refine ⟨hii,by show s.length<=1000;omega,hii,trivial,fun _=>⟨trivial,rfl⟩,fun he=>?_⟩
  simp only [eld] at he ⊢
  have he2:(hasV c s ld).2=0:=by
   have:=(Bool.or_eq_false_iff.1 he).1
   exact eq_of_beq (not_iff.2.1 this)
  have K:=known_of he2
  have eH:(zan (c,s,ld)).1=hasL (sureB c ld) s 0:=K.has
  have eB:(zak (c,ld)).1=blackB (c,ld):=K.black
  obtain ⟨H,hH⟩:∃ H,H=hasL (sureB c ld) s 0:=⟨_,rfl⟩
  have hmem:∀ v,v∈H↔∃ k,k<s.length∧v=(k:Int)∧sureB c ld (s.getD k noS)=true:=fun v=>by
   rw [hH,hasL_mem];simp only [Int.zero_add]
  have hHl:H.length<=8:=by rw [hH];exact Nat.le_trans (hasL_len s 0) hs8
  rw [<-hH] at eH
  simp only [eH,eB]
  clear he
  refine ⟨fun p=>∃ t:Nat,p.2=(t:Int)∧t<=H.length∧smallSet p.1∧∀ k:Nat,hasB p.1 (k:Nat)=(H.take t).any fun v=>v==(k:Int),fun p=>((H.length:Int) - p.2).toNat,⟨0,rfl,by omega,⟨by decide,by decide⟩,fun k=>by simp [hasB]⟩,?_⟩
  rintro ⟨set,t'⟩ ⟨t,et,ht,hsm,hbit⟩
  simp only at et hsm hbit
  subst et
  refine ⟨fun hlt2=>?_,fun hlt2=>?_⟩
  ·have hlt2:(t:Int)<(H.length:Int):=of_decide_eq_true hlt2
   have hlt2:t<H.length:=by omega
   obtain ⟨k0,hk0,ek0,_⟩:=(hmem (H.getD t 0)).1 (zbD H 0 t hlt2)
   have hp:=pow8 (k:=k0) (by omega)
   simp only [Int.toNat_natCast,ek0]
   refine ⟨⟨by omega,by omega⟩,fun hb=>?_,fun _=>⟨⟨⟨by omega,by omega⟩,by rw [Int.one_mul];simp only [Z.in64];omega⟩,⟨hsm.1,by omega⟩,by simp only [Z.in64];omega,by first | rfl | trivial,by first | rfl | trivial,by first | rfl | trivial,by first | rfl | trivial,⟨t+1,rfl,hlt2,?_,?_⟩,?_⟩⟩
   ·exfalso
    rw [Bool.or_eq_true] at hb
    rcases hb with hb | hb
    ·have:=of_decide_eq_true hb;omega
    ·have:(s.length:Int)<=(k0:Int):=of_decide_eq_true hb;omega
   ·exact or_small hsm (by omega)
   ·intro k
    show hasB ((set.toNat ||| (1*2^((k0:Nat):Int).toNat:Int).toNat:Nat):Int) (k:Nat)=_
    rw [has_or,hbit k]
    have e1:H.take (t+1)=H.take t++[H.getD t 0]:=by
     rw [List.take_succ_eq_append_getElem hlt2];simp [List.getD,hlt2]
    rw [e1,List.any_append,ek0]
    simp only [List.any_cons,List.any_nil,Bool.or_false]
    congr 1
    refine bool_ext ?_
    rw [decide_eq_true_eq,beq_iff_eq];omega
   ·show ((H.length:Int) - ((t:Int)+1)).toNat<((H.length:Int) - (t:Int)).toNat
    omega
  have hlt2:¬ (t:Int)<(H.length:Int):=of_decide_eq_false hlt2
  have:t=H.length:=by omega
  subst this
  rw [List.take_length] at hbit
  have hPi:∀ y:Pile,y=(set,ld.2.2.2.2.2.2)->PileIs c s ld y:=by
   rintro y rfl
   refine ⟨hsm,fun k=>?_,rfl,K.many⟩
   rw [hbit k]
   refine bool_ext ?_
   rw [List.any_eq_true,Bool.and_eq_true,decide_eq_true_eq]
   constructor
   ·rintro ⟨v,hv,e⟩
    have e:=eq_of_beq e
    obtain ⟨k1,h1,h2,h3⟩:=(hmem v).1 hv
    have:k1=k:=by omega
    subst this
    exact ⟨h1,h3⟩
   ·rintro ⟨h1,h2⟩
    exact ⟨(k:Int),(hmem _).2 ⟨k,h1,rfl,h2⟩,by simp⟩
  refine ⟨hii,roomy_of (by decide) (by decide) (by rw [List.length_append,hPl];simp;omega),roomy_of (by decide) (by decide) (by rw [List.length_append,hBl];simp;omega),by simp only [Z.in64];omega,⟨i+1,rfl,hlt,?_,?_,fun a ha=>?_,fun a ha=>?_⟩,?_⟩
  ·show (P++_).length=_;rw [List.length_append,hPl];rfl
  ·show (B++_).length=_;rw [List.length_append,hBl];rfl
  ·show PileIs c s (l.getD a noL) ((P++[(set,ld.2.2.2.2.2.2)]).getD a noP)
   rw [app_getD,hPl]
   by_cases h1:a<i
   ·rw [if_pos h1];exact hP a h1
   ·have:a=i:=by omega
    subst this
    rw [if_neg h1,if_pos rfl,<-hld]
    exact hPi _ rfl
  ·show (B++[blackB (c,ld)]).getD a (0,0)=_
   rw [app_getD,hBl]
   by_cases h1:a<i
   ·rw [if_pos h1];exact hB a h1
   ·have:a=i:=by omega
    subst this
    rw [if_neg h1,if_pos rfl,<-hld]
  ·show ((l.length:Int) - ((i:Int)+1)).toNat<((l.length:Int) - (i:Int)).toNat
   omega
 have hlt:¬ (i:Int)<(l.length:Int):=of_decide_eq_false hlt
 have:i=l.length:=by omega
 subst this
 clear hi hlt
 dsimp only
 cases hv:boxB need P with
 | false =>
  have eM:zad (need,P)=(0,0,1):=by rw [zad,hv];rfl
  simp only [eM]
  refine ⟨trivial,fun _=>⟨fun _=>trivial,fun _=>trivial,?_⟩,(fun h=>by cases h)⟩
  show (((1:Int)==1&&!(boxB need P))&&true)=true
  rw [hv];rfl
 | true =>
  have hbox:=box_iff.1 hv
  obtain ⟨X,eM,hX,hlack,hcan⟩:=most_is hbox
  have hbd:=most_bd (need,P)
  generalize mostB (need,P)=b at eM hlack hcan hbd
  obtain ⟨hX1,hX2⟩:=sets_mem.1 hX
  rw [hns] at hX2
  have hX0:0<=X:=by omega
  have hbit:∀ k:Nat,((((Int.toNat (Int.fdiv X (2^(Int.toNat (k:Int))))) &&& (Int.toNat (1)):Nat):Int)==1)=hasB X (k:Nat):=fun k=>has_div hX0 (by omega)
  have hV:zbe (need,P)=true:=hv
  simp only [eM,hV]
  refine ⟨trivial,(fun h=>by cases h),fun _=>⟨trivial,fun _=>shl_ok (by omega) (by omega),fun hb=>?_,fun _=>?_⟩⟩
  ·exfalso
   rw [Bool.or_eq_true,Bool.or_eq_true,Bool.or_eq_true,Bool.or_eq_true] at hb
   rcases hb with (((hb | hb) | hb) | hb) | hb
   ·cases hb
   ·have:=of_decide_eq_true hb;omega
   ·have:=of_decide_eq_true hb;omega
   ·have:=of_decide_eq_true hb;omega
   ·have:=of_decide_eq_true hb
    rw [Int.one_mul,Int.toNat_natCast] at this
    omega
  have hnd:∀ k,k<s.length->0<=need.getD k 0∧need.getD k 0<=48:=fun k hk=>hbox.nd _ (zbD need 0 k (by omega))
  have hask:∀ k,k<s.length->0<=cond (hasB X (k:Nat)) ((b+1)*need.getD k 0) 0∧cond (hasB X (k:Nat)) ((b+1)*need.getD k 0) 0<=402653232:=fun k hk=>by
   have:=hnd k hk
   cases hasB X (k:Nat) with
   | true =>
    simp only [cond_true]
    refine ⟨Int.mul_nonneg (by omega) this.1,?_⟩
    have h2:(b+1)*need.getD k 0<=8388609*48:=Int.mul_le_mul (by omega) this.2 this.1 (by decide)
    omega
   | false=>exact ⟨Int.le_refl 0,by show (0:Int)<=402653232;omega⟩
  refine ⟨fun p=>∃ k:Nat,p.2=(k:Int)∧k<=s.length∧p.1=sumN k fun k=>cond (hasB X (k:Nat)) ((b+1)*need.getD k 0) 0,fun p=>((s.length:Int) - p.2).toNat,⟨0,rfl,by omega,rfl⟩,?_⟩
  rintro ⟨asked,k2⟩ ⟨k,ek,hk,eas⟩
  simp only at ek eas
  subst ek;subst eas
  have hsk0:=zdJ (n:=k) fun i hi=>(hask i (by omega)).1
  have hsk1:=sumN_bd (T:=402653232) k fun i hi=>(hask i (by omega)).2
  have hsk2:(k:Int)*402653232<=3221225856:=by omega
  refine ⟨fun hlt2=>?_,fun hlt2=>?_⟩
  ·have hlt2:(k:Int)<(s.length:Int):=of_decide_eq_true hlt2
   have hko:k<s.length:=by omega
   have hm:=hnd k hko
   have ha:=hask k hko
   have meas:((s.length:Int) - ((k:Int)+1)).toNat<((s.length:Int) - (k:Int)).toNat:=by omega
   simp only [hbit]
   simp only [Int.toNat_natCast]
   refine ⟨⟨by omega,by omega⟩,⟨fdiv_nn (n:=(k:Int)) hX0,by omega⟩,fun hb=>?_,fun hb=>⟨by simp only [Z.in64];omega,by first | rfl | trivial,by first | rfl | trivial,by first | rfl | trivial,by first | rfl | trivial,⟨k+1,rfl,hko,?_⟩,meas⟩⟩
   ·rw [hb,cond_true] at ha
    refine ⟨by simp only [Z.in64];omega,⟨by omega,by omega⟩,by simp only [Z.in64];omega,by simp only [Z.in64];omega,by simp only [Z.in64];omega,by first | rfl | trivial,by first | rfl | trivial,by first | rfl | trivial,by first | rfl | trivial,⟨k+1,rfl,hko,?_⟩,meas⟩
    rw [zbn,hb,cond_true]
   ·rw [zbn,hb,cond_false,Int.add_zero]
  have hlt2:¬ (k:Int)<(s.length:Int):=of_decide_eq_false hlt2
  have:k=s.length:=by omega
  subst this
  obtain ⟨tch,htch⟩:∃ tch:Nat->Bool,tch=fun a=>(List.range s.length).any fun k=>hasB X (k:Nat)&&sureB c (l.getD a noL) (s.getD k noS):=⟨_,rfl⟩
  have hmn:∀ a,a<l.length->0<=cond (tch a) ((l.getD a noL).2.2.2.2.2.2) 0∧cond (tch a) ((l.getD a noL).2.2.2.2.2.2) 0<=1048576:=fun a ha=>by
   have:=(hP a ha).many
   cases tch a with
   | true=>exact this
   | false=>exact ⟨Int.le_refl 0,by show (0:Int)<=1048576;omega⟩
  have hpre:∀ i k:Nat,i<l.length->k<s.length->zce ((i:Int),(k:Int),inF,B,s,l):=fun i k hi hk =>
   ⟨⟨⟨by show (0:Int)<=(i:Nat);omega,by show ((i:Nat):Int)<(B.length:Int);omega⟩,⟨by show (0:Int)<=(k:Nat);omega,by show ((k:Nat):Int)<(s.length:Int);omega⟩,by show ((i:Nat):Int)<(l.length:Int);omega⟩,fun _=>trivial⟩
  refine ⟨fun p=>∃ i:Nat,p.2=(i:Int)∧i<=l.length∧p.1=sumN i fun a=>cond (tch a) ((l.getD a noL).2.2.2.2.2.2) 0,fun p=>((l.length:Int) - p.2).toNat,⟨0,rfl,by omega,rfl⟩,?_⟩
  rintro ⟨there,i2⟩ ⟨i,ei,hi,eth⟩
  simp only at ei eth
  subst ei;subst eth
  have hthere:=sum8 (n:=i) (by omega) fun a ha=>hmn a (by omega)
  refine ⟨fun hlt=>?_,fun hlt=>?_⟩
  ·have hlt:=of_decide_eq_true hlt
   have hil:i<l.length:=by have:(i:Int)<(l.length:Int):=hlt;omega
   refine ⟨fun q=>∃ k:Nat,q.2=(k:Int)∧k<=s.length∧q.1=(List.range k).any fun k=>hasB X (k:Nat)&&sureB c (l.getD i noL) (s.getD k noS),fun q=>((s.length:Int) - q.2).toNat,⟨0,rfl,by omega,rfl⟩,?_⟩
   rintro ⟨some,k2⟩ ⟨k,ek,hk,esm⟩
   simp only at ek esm
   subst ek;subst esm
   refine ⟨fun hlt2=>?_,fun hlt2=>?_⟩
   ·have hlt2:(k:Int)<(s.length:Int):=of_decide_eq_true hlt2
    have hko:k<s.length:=by omega
    simp only [hbit,sure_is (c:=c) (s:=s) (hB i hil)]
    refine ⟨fun _=>⟨by omega,by omega⟩,fun _=>⟨fdiv_nn (n:=(k:Int)) hX0,by omega⟩,fun _=>hpre i k hil hko,by simp only [Z.in64];omega,by first | rfl | trivial,by first | rfl | trivial,by first | rfl | trivial,by first | rfl | trivial,⟨k+1,rfl,hko,?_⟩,?_⟩
    ·rw [any_upto]
    ·show ((s.length:Int) - ((k:Int)+1)).toNat<((s.length:Int) - (k:Int)).toNat
     omega
   have hlt2:¬ (k:Int)<(s.length:Int):=of_decide_eq_false hlt2
   have:k=s.length:=by omega
   subst this
   have et:((List.range s.length).any fun k=>hasB X (k:Nat)&&sureB c (l.getD i noL) (s.getD k noS))=tch i:=by rw [htch]
   simp only [et]
   have hm:=(hP i hil).many
   have meas:((l.length:Int) - ((i:Int)+1)).toNat<((l.length:Int) - (i:Int)).toNat:=by omega
   simp only [Int.toNat_natCast]
   simp only [topN] at hm
   refine ⟨fun hb=>⟨⟨by omega,by omega⟩,by show Z.in64 (_+(l.getD i noL).2.2.2.2.2.2);simp only [Z.in64];omega,by simp only [Z.in64];omega,by first | rfl | trivial,by first | rfl | trivial,by first | rfl | trivial,by first | rfl | trivial,⟨i+1,rfl,hil,?_⟩,meas⟩,fun hb=>⟨by simp only [Z.in64];omega,by first | rfl | trivial,by first | rfl | trivial,by first | rfl | trivial,by first | rfl | trivial,⟨i+1,rfl,hil,?_⟩,meas⟩⟩
   ·rw [zbn,hb,cond_true]
   ·rw [zbn,hb,cond_false,Int.add_zero]
  have hlt:¬ (i:Int)<(l.length:Int):=of_decide_eq_false hlt
  have:i=l.length:=by omega
  subst this
  have e1:(sumN l.length fun a=>cond (tch a) ((l.getD a noL).2.2.2.2.2.2) 0)=haveV P X:=by
   rw [have_sum,hPl]
   refine zdy fun a ha=>?_
   rw [touch_sure (hP a ha),htch,(hP a ha).rest]
  have e2:(sumN s.length fun k=>cond (hasB X (k:Nat)) ((b+1)*need.getD k 0) 0)=sumV X need*(b+1):=by
   rw [<-sum_times,sum_sum,times_len,hns]
   refine zdy fun k hk=>?_
   congr 1
   have hkn:k<need.length:=by omega
   simp [timesV,List.getD,hkn,Int.mul_comm]
  rw [e1,e2]
  refine ⟨fun h=>?_,fun _=>⟨fun _=>⟨trivial,rfl⟩,fun hmany=>?_⟩⟩
  ·exfalso
   have:=of_decide_eq_true h
   omega
  have hmany:¬ (1048576:Int)<b:=of_decide_eq_false hmany
  have hF:=fill_is (x:=(need,P,b)) hbox (by show 0<=b;omega) (by show b<=1048576;omega) ((hcan b (by omega)).2 (Int.le_refl _))
  obtain ⟨f1,f2,f3⟩:=hF
  generalize zaw (need,P,b)=FV at f1 f2 f3
  obtain ⟨rows,e⟩:=FV
  simp only at f1 f2 f3
  subst f1
  have hrl:rows.length=l.length:=by rw [f2];exact hPl
  have f3:∀ i k:Nat,i<l.length->(rows.getD i []).length=need.length∧(0<(rows.getD i []).getD k 0->hasB (P.getD i noP).1 (k:Nat)=true):=fun i k hi=>f3 i k (by show i<P.length;omega)
  dsimp only
  refine ⟨trivial,fun hb=>?_,fun _=>?_⟩
  ·exfalso
   rw [Bool.or_eq_true] at hb
   rcases hb with hb | hb
   ·cases hb
   ·rw [hrl] at hb;simp at hb
  refine ⟨fun t=>∃ i:Nat,t=(i:Int)∧i<=l.length,fun t=>((l.length:Int) - t).toNat,⟨0,rfl,by omega⟩,?_⟩
  rintro t ⟨i,rfl,hi⟩
  refine ⟨fun hlt=>?_,fun hlt=>⟨trivial,rfl⟩⟩
  have hlt:=of_decide_eq_true hlt
  have hil:i<l.length:=by omega
  have hrow:=(f3 i 0 hil).1
  simp only [Int.toNat_natCast]
  refine ⟨⟨by omega,hlt⟩,fun hb=>?_,fun _=>?_⟩
  ·rw [hrow,hns] at hb;simp at hb
  refine ⟨fun t=>∃ k:Nat,t=(k:Int)∧k<=s.length,fun t=>((s.length:Int) - t).toNat,⟨0,rfl,by omega⟩,?_⟩
  rintro t ⟨k,rfl,hk⟩
  refine ⟨fun hlt2=>?_,fun hlt2=>?_⟩
  ·have hlt2:=of_decide_eq_true hlt2
   have hko:k<s.length:=by omega
   simp only [Int.toNat_natCast,sure_is (c:=c) (s:=s) (hB i hil)]
   refine ⟨⟨by omega,hlt⟩,⟨by omega,by rw [hrow,hns];exact hlt2⟩,fun _=>hpre i k hil hko,fun hb=>?_,fun _=>⟨by simp only [Z.in64];omega,by first | rfl | trivial,by first | rfl | trivial,by first | rfl | trivial,by first | rfl | trivial,⟨k+1,rfl,hko⟩,?_⟩⟩
   ·exfalso
    rw [Bool.and_eq_true] at hb
    have hpos:=of_decide_eq_true hb.1
    have hcl:=not_iff.1.1 hb.2
    have hh:=(f3 i k hil).2 hpos
    rw [(hP i hil).bit k,hcl] at hh
    simp at hh
   ·show ((s.length:Int) - ((k:Int)+1)).toNat<((s.length:Int) - (k:Int)).toNat
    omega
  ·exact ⟨by simp only [Z.in64];omega,by first | rfl | trivial,by first | rfl | trivial,by first | rfl | trivial,by first | rfl | trivial,⟨i+1,rfl,hil⟩,by show ((l.length:Int) - ((i:Int)+1)).toNat<((l.length:Int) - (i:Int)).toNat;omega⟩
end Go.Tt
