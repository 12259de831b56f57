/-
  Coat: what is valid, and small conditions.
-/
import Derived.Test.YtdhdklojcppfcaaTtVAuto
import Derived.Test.YtdhdklojcppfcaaTtMix
set_option linter.all false
set_option maxRecDepth 100000
set_option maxHeartbeats 4000000
open Bool renaming and_eq_true->yac,not_eq_true'->yaF,or_eq_false_iff->ydK,or_eq_true->yaE,true_and->ycl
open Int renaming toNat->yby,toNat_natCast->ydx
open List renaming Perm->ydN,append_assoc->yaz,append_nil->ydv,cons_append->yaC,drop_eq_nil_of_le->ydf,foldl_append->ydJ,getD->ydd,length_append->yao,length_cons->ybU,length_reverse->ydO,length_take->ybo,mem_append->yas,mem_cons_of_mem->yal,mem_cons_self->yam,mem_of_mem_take->ydI,mem_singleton->yat,range_succ->ydL,set_append_right->ydM,take_of_length_le->ybT
open Nat renaming le_trans->yah
namespace Go.Tt
open Go Go.Sx
theorem zaj:TabsOk Go.Proofs.Try.prog TV:=⟨by kernel_rfl,maps_ok⟩
theorem zlp {α:Type} (l:List α) (d:α) (F:Fun α Bool) (hl:l.length<=bigV) (hp:∀ a∈l,F.pre a) :
  Z.LoopP (X:=Int) 0 (fun s0 K0=>(((decide ((s0:Int)<(l.length:Int))=true)->(((0:Int)<=s0/\(s0:Int)<(l.length:Int))/\((F.pre (l.getD (yby s0) d))/\((((F.val (l.getD (yby s0) d))=true)->((s0:Int)=ixF F.val l 0))/\(((F.val (l.getD (yby s0) d))=false)->(Z.in64 (s0+1)/\(K0 (s0+1))))))))/\((decide ((s0:Int)<(l.length:Int))=false)->(((-1):Int)=ixF F.val l 0)))):=by
 refine ⟨fun s=>0<=s/\s<=(l.length:Int)/\ixF F.val l 0=ixF F.val (l.drop s.toNat) s,fun s=>((l.length:Int) - s).toNat,⟨by omega,by omega,rfl⟩,?_⟩
 rintro s ⟨h1,h2,h3⟩
 refine ⟨fun h=>?_,fun h=>?_⟩
 ·have h:=of_decide_eq_true h
  have e:=zgb l d s h1 h
  refine ⟨⟨h1,h⟩,hp _ (zdr l d s h1 h),fun hv=>?_,fun hv=>⟨?_,⟨?_,?_,?_⟩,?_⟩⟩
  ·rw [h3,e,ixF,hv,cond_true]
  ·simp only [Z.in64];simp only [bigV] at hl;omega
  ·omega
  ·omega
  ·rw [h3,e,ixF,hv,cond_false]
  ·simp only;omega
 ·have h:=of_decide_eq_false h
  have e:l.drop s.toNat=[]:=ydf (by omega)
  rw [h3,e,ixF]
theorem v110 (x:Int × Int × Int) (_:k110.pre x):V110 x:=rfl
theorem v169 (x:Int × Int × Int) (_:k169.pre x):V169 x:=rfl
theorem v119 (x:Int) (_:k119.pre x):V119 x:=⟨trivial,rfl⟩
theorem dry_not (s:Span):((decide (s.1<0)||decide (s.2<s.1))||decide ((1000:Int)<s.2))=!dryOk s:=by
 refine zgN ?_
 rw [yaF,dryOk]
 constructor
 ·intro h
  refine Bool.eq_false_iff.2 fun hh=>?_
  have:=zea.1 hh
  simp only [yaE,decide_eq_true_eq] at h
  omega
 ·intro h
  simp only [yaE,decide_eq_true_eq]
  refine Classical.byContradiction fun hn=>?_
  rw [show spanB s 0 1000=true from zea.2 (by omega)] at h
  cases h
theorem v167 (x:Span) (_:k167.pre x):V167 x:=dry_not x
theorem v197 (x:(List Span) × Fun Span Bool) (h:k197.pre x):V197 x:=zlp x.1 (0,0) x.2 h.1 h.2
theorem v170 (x:(List Span) × Fun Span Bool) (h:k170.pre x):V170 x:=⟨h,any_ix _ _⟩
theorem v198 (x:(List Coats) × Fun Coats Bool) (h:k198.pre x):V198 x:=zlp x.1 ([],0) x.2 h.1 h.2
theorem v171 (x:(List Coats) × Fun Coats Bool) (h:k171.pre x):V171 x:=⟨h,any_ix _ _⟩
theorem v168 (x:Coats × Fun Span Bool) (h:k168.pre x):V168 x:=⟨fun _=>trivial,fun _=>h,rfl⟩
theorem zhC (l:List Coats) (b:Coats):coatsN (l++[b])=coatsN l+(b.1.length:Int):=by simp [coatsN]
theorem zgL (l:List Coats):0<=coatsN l:=by
 induction l with
 | nil=>exact Int.le_refl _
 | cons b l ih =>
  have:coatsN (b::l)=(b.1.length:Int)+coatsN l:=by simp [coatsN]
  omega
theorem zjb {l:List Coats} (h:∀ b∈l,b.1.length<=bigV):coatsN l<=140737488355328*(l.length:Int):=by
 induction l with
 | nil=>simp [coatsN]
 | cons b l ih =>
  have h1:=ih fun c hc=>h c (yal _ hc)
  have h2:=h b yam
  have:coatsN (b::l)=(b.1.length:Int)+coatsN l:=by simp [coatsN]
  simp only [bigV] at h2
  rw [ybU];omega
theorem zbo {α:Type} (l:List α) (d:α) {i:Nat} (h:i<l.length):l.take (i+1)=l.take i++[l.getD i d]:=by
 rw [List.take_succ_eq_append_getElem h];simp [ydd,h]
theorem v113 (x:Paint) (hp:k113.pre x):V113 x:=by
 obtain ⟨h4,hb⟩:x.2.2.length<=4/\∀ b∈x.2.2,b.1.length<=bigV:=hp
 refine ⟨fun s=>∃ i:Nat,s.2=(i:Int)/\i<=x.2.2.length/\s.1=coatsN (x.2.2.take i),fun s=>((x.2.2.length:Int) - s.2).toNat,⟨0,rfl,by omega,rfl⟩,?_⟩
 rintro ⟨n,i'⟩ ⟨i,ei,hi,en⟩
 simp only at ei en
 subst ei
 refine ⟨fun hd=>?_,fun hd=>?_⟩
 ·have hd:(i:Int)<(x.2.2.length:Int):=of_decide_eq_true hd
  have hil:i<x.2.2.length:=by omega
  have hs:=zhC (x.2.2.take i) (x.2.2.getD i zCo)
  rw [<-zbo x.2.2 zCo hil] at hs
  have hl:=zjb (l:=x.2.2.take (i+1)) fun b h=>hb b (ydI h)
  have h0:=zgL (x.2.2.take (i+1))
  have hlen:(x.2.2.take (i+1)).length<=4:=by rw [ybo];omega
  rw [<-en] at hs
  refine ⟨⟨by omega,hd⟩,?_,by simp only [Z.in64];omega,⟨i+1,rfl,hil,hs.symm⟩,?_⟩
  ·show Z.in64 (n+((x.2.2.getD i zCo).1.length:Int))
   rw [<-hs]
   simp only [Z.in64];omega
  ·show ((x.2.2.length:Int) - ((i:Int)+1)).toNat<((x.2.2.length:Int) - (i:Int)).toNat
   omega
 ·have hd:¬ (i:Int)<(x.2.2.length:Int):=of_decide_eq_false hd
  show n=coatsN x.2.2
  rw [en,ybT (by omega)]
structure PaintIs (p:Paint):Prop where
 dip:1<=p.1/\p.1<=24
 racks:1<=p.2.1/\p.2.1<=4
 n:1<=p.2.2.length/\p.2.2.length<=4
 batch:∀ b∈p.2.2,b.1.length≠0/\(0<=b.2/\b.2<=1000)/\∀ d∈b.1,0<=d.1/\d.1<=d.2/\d.2<=1000
 sum:coatsN p.2.2<=9
theorem zdW {p:Paint}:paintB p=true↔PaintIs p:=by
 simp only [paintB,yac,inB_iff,List.all_eq_true,coatB,decide_eq_true_eq,yaF,beq_eq_false_iff_ne,dryOk,zea]
 constructor
 ·rintro ⟨⟨⟨h1,h2,h3⟩,h4⟩,h5⟩
  exact ⟨h1,h2,by omega,fun b hb=>by
   obtain ⟨⟨g1,g2⟩,g3⟩:=h4 b hb
   exact ⟨by omega,g2,g3⟩,h5⟩
 ·intro h
  have hn:=h.n
  exact ⟨⟨⟨h.dip,h.racks,by omega⟩,fun b hb=>by
   obtain ⟨g1,g2,g3⟩:=h.batch b hb
   exact ⟨⟨by omega,g2⟩,g3⟩⟩,h.sum⟩
theorem v112 (x:Paint) (hp:k112.pre x):V112 x:=by
 obtain ⟨hl,hb⟩:PaintP x:=hp
 have len4:∀ {c:Bool},(((zao (x.1,1,24))&&(zao (x.2.1,1,4)))&&(zao ((x.2.2.length:Int),1,4)))=true->x.2.2.length<=4:=fun h=>by
  rw [yac] at h
  have:=inB_iff.1 (show inB (x.2.2.length:Int) 1 4=true from h.2)
  omega
 refine ⟨trivial,fun _=>trivial,fun _=>trivial,fun h=>⟨hl,fun b hb'=>⟨hb b hb',fun _ _=>trivial⟩⟩,fun h=>⟨?_,hb⟩,?_⟩
 ·rw [yac] at h
  exact len4 (c:=true) h.1
 ·have e:(fun b:Coats=>((b.1.length:Int)==0||!inB b.2 0 1000)||b.1.any fun s=>!dryOk s)=fun b=>!coatB b:=by
   funext b
   rw [coatB,<-any_not]
   cases (b.1.length:Int)==0<;>cases inB b.2 0 1000<;>cases b.1.any fun s=>!dryOk s<;>rfl
  show ((((inB x.1 1 24&&inB x.2.1 1 4)&&inB (x.2.2.length:Int) 1 4)&&!(x.2.2.any fun b=>((b.1.length:Int)==0||!inB b.2 0 1000)||b.1.any fun s=>!dryOk s))&&decide (coatsN x.2.2<=9))=paintB x
  rw [e,any_not,paintB]
  cases inB x.1 1 24<;>cases inB x.2.1 1 4<;>cases inB (x.2.2.length:Int) 1 4<;>rfl
theorem v199 (x:Int × List Int) (hp:k199.pre x):V199 x:=by
 have h:x.2.length<=big:=hp
 simp only [big] at h
 refine ⟨fun s=>∃ i:Nat,s.2=(i:Int)/\i<=x.2.length/\s.1=lateV x.1 (x.2.take i),fun s=>((x.2.length:Int) - s.2).toNat,⟨0,rfl,by omega,rfl⟩,?_⟩
 rintro ⟨n,i'⟩ ⟨i,ei,hi,en⟩
 simp only at ei en
 subst ei
 refine ⟨fun hd=>?_,fun hd=>?_⟩
 ·have hd:(i:Int)<(x.2.length:Int):=of_decide_eq_true hd
  have hil:i<x.2.length:=by omega
  refine ⟨⟨by omega,hd⟩,by simp only [Z.in64];omega,⟨i+1,rfl,hil,?_⟩,?_⟩
  ·show max n (x.2.getD i 0)=lateV x.1 (x.2.take (i+1))
   rw [zbo x.2 0 hil,lateV,ydJ,en];rfl
  ·show ((x.2.length:Int) - ((i:Int)+1)).toNat<((x.2.length:Int) - (i:Int)).toNat
   omega
 ·have hd:¬ (i:Int)<(x.2.length:Int):=of_decide_eq_false hd
  show n=lateV x.1 x.2
  rw [en,ybT (by omega)]
theorem v234 (x:Int) (_:k234.pre x):V234 x:=by
 show (!x==x)=false
 simp
theorem v224 (x:Int × Int) (_:k224.pre x):V224 x:=⟨trivial,fun _=>trivial,rfl⟩
theorem v227 (x:Int) (h:k227.pre x):V227 x:=h.elim
theorem all228:∀ n,n<5->((0:Int)<=Go.IntKind.wrap .u8 ((n:Nat):Int)/\Go.IntKind.wrap .u8 ((n:Nat):Int)<256)/\(0<=0+lenTab.getD (Go.IntKind.wrap .u8 ((n:Nat):Int)).toNat 0/\0+lenTab.getD (Go.IntKind.wrap .u8 ((n:Nat):Int)).toNat 0<=8)/\0+lenTab.getD (Go.IntKind.wrap .u8 ((n:Nat):Int)).toNat 0=lenV ((n:Nat):Int):=of_decide_eq_true (by kernel_rfl)
theorem v228 (x:Int) (h:k228.pre x):V228 x:=by
 have h:0<=x/\x<=4:=h
 have key:=all228 x.toNat (by omega)
 rw [show ((x.toNat:Nat):Int)=x by omega] at key
 have no:∀ {c:Int} {P:Prop},8<c->decide (c<=x)=true->P:=fun hc hd=>absurd (of_decide_eq_true hd) (by omega)
 refine ⟨no (by decide),fun _=>⟨no (by decide),fun _=>⟨no (by decide),fun _=>⟨key.1,?_,key.2.2⟩⟩⟩⟩
 have:=key.2.1
 simp only [Z.in64]
 omega
theorem v217 (x:Int) (h:k217.pre x):V217 x:=⟨fun h=>(by cases h),fun _=>⟨h,rfl⟩⟩
theorem v211 (x:Sx.Seq Int) (hp:k211.pre x):V211 x:=by
 obtain ⟨h1,h2⟩:x.1/\x.2.length<=big:=hp
 refine ⟨trivial,h1,fun r s=>s.2++r=x.2,by simp,?_,?_⟩
 ·rintro e r ⟨s1,s2⟩ h
  refine ⟨?_,?_⟩
  ·have:=congrArg List.length h
   simp only [yao,ybU] at this
   simp only [Z.roomy,big] at *;simp;omega
  ·show (s2++[e])++r=x.2
   rw [yaz];exact h
 ·rintro ⟨s1,s2⟩ h
  have h:s2++[]=x.2:=h
  rw [ydv] at h
  exact ⟨trivial,h⟩
end Go.Tt
/-
 Coat: the shop at work.
-/
namespace Go.Tt
open Go Go.Sx
theorem zfh {p:Paint} (h:PaintIs p->False):false=paintB p:=by
 cases e:paintB p with
 | false=>rfl
 | true=>exact (h (zdW.1 e)).elim
theorem v42 (x:Paint) (hp:k42.pre x):V42 x:=by
 obtain ⟨hl,hb⟩:PaintP x:=hp
 refine ⟨trivial,fun _=>trivial,fun _=>trivial,fun h=>zfh fun P=>?_,fun h=>?_⟩
 ·have h1:inB x.1 1 24=true:=inB_iff.2 P.dip
  have h2:inB x.2.1 1 4=true:=inB_iff.2 P.racks
  have h3:inB (x.2.2.length:Int) 1 4=true:=inB_iff.2 (by have:=P.n;omega)
  have h:((!inB x.1 1 24||!inB x.2.1 1 4)||!inB (x.2.2.length:Int) 1 4)=true:=h
  rw [h1,h2,h3] at h
  cases h
 rw [ydK,ydK] at h
 have d1:=inB_iff.1 (show inB x.1 1 24=true from not_iff.2.1 h.1.1)
 have d2:=inB_iff.1 (show inB x.2.1 1 4=true from not_iff.2.1 h.1.2)
 have d3:=inB_iff.1 (show inB (x.2.2.length:Int) 1 4=true from not_iff.2.1 h.2)
 clear h
 refine ⟨fun s=>∃ i:Nat,s.2=(i:Int)/\i<=x.2.2.length/\s.1=coatsN (x.2.2.take i)/\∀ b∈x.2.2.take i,b.1.length≠0/\(0<=b.2/\b.2<=1000)/\∀ d∈b.1,0<=d.1/\d.1<=d.2/\d.2<=1000,fun s=>((x.2.2.length:Int) - s.2).toNat,⟨0,rfl,by omega,rfl,fun b hb=>by cases hb⟩,?_⟩
 rintro ⟨n,i'⟩ ⟨i,ei,hi,en,hall⟩
 simp only at ei en
 subst ei
 refine ⟨fun hd=>?_,fun hd=>?_⟩
 ·have hd:(i:Int)<(x.2.2.length:Int):=of_decide_eq_true hd
  have hil:i<x.2.2.length:=by omega
  have hm:=zbS x.2.2 zCo i hil
  have hbl:=hb _ hm
  simp only [bigV] at hbl
  have hs:=zhC (x.2.2.take i) (x.2.2.getD i zCo)
  rw [<-zbo x.2.2 zCo hil] at hs
  have hls:=zjb (l:=x.2.2.take (i+1)) fun b h=>hb b (ydI h)
  have h0:=zgL (x.2.2.take (i+1))
  have hlen:(x.2.2.take (i+1)).length<=4:=by rw [ybo];omega
  rw [<-en] at hs
  simp only [ydx]
  have hts:=zbo x.2.2 zCo hil
  refine ⟨⟨by omega,hd⟩,fun _=>trivial,fun h=>zfh fun P=>?_,fun h=>?_⟩
  ·obtain ⟨g1,g2,_⟩:=P.batch _ hm
   have h:(((x.2.2.getD i zCo).1.length:Int)==0||!inB (x.2.2.getD i zCo).2 0 1000)=true:=h
   rw [inB_iff.2 g2,yaE] at h
   rcases h with h | h
   ·have:=eq_of_beq h;omega
   ·cases h
  rw [ydK] at h
  have g1:(x.2.2.getD i zCo).1.length≠0:=by
   have:((x.2.2.getD i zCo).1.length:Int)≠0:=beq_eq_false_iff_ne.1 h.1
   omega
  have g2:=inB_iff.1 (show inB (x.2.2.getD i zCo).2 0 1000=true from not_iff.2.1 h.2)
  refine ⟨fun s=>∃ j:Nat,s=(j:Int)/\j<=(x.2.2.getD i zCo).1.length/\∀ d∈(x.2.2.getD i zCo).1.take j,0<=d.1/\d.1<=d.2/\d.2<=1000,fun s=>(((x.2.2.getD i zCo).1.length:Int) - s).toNat,⟨0,rfl,by omega,fun d hd=>by cases hd⟩,?_⟩
  rintro s ⟨j,rfl,hj,hjs⟩
  refine ⟨fun hd2=>?_,fun hd2=>?_⟩
  ·have hd2:(j:Int)<((x.2.2.getD i zCo).1.length:Int):=of_decide_eq_true hd2
   have hjl:j<(x.2.2.getD i zCo).1.length:=by omega
   have hdm:=zbS (x.2.2.getD i zCo).1 (0,0) j hjl
   simp only [ydx]
   rw [dry_not]
   refine ⟨⟨by omega,hd2⟩,fun _=>⟨by omega,hd2⟩,fun _=>⟨by omega,hd2⟩,fun _=>⟨by omega,hd2⟩,fun h=>zfh fun P=>?_,fun h=>⟨by simp only [Z.in64];omega,by first | rfl | trivial,⟨j+1,rfl,hjl,?_⟩,?_⟩⟩
   ·have:=(P.batch _ hm).2.2 _ hdm
    have h:dryOk ((x.2.2.getD i zCo).1.getD j (0,0))=false:=not_iff.1.1 h
    rw [show dryOk ((x.2.2.getD i zCo).1.getD j (0,0))=true from zea.2 this] at h
    cases h
   ·have h:dryOk ((x.2.2.getD i zCo).1.getD j (0,0))=true:=not_iff.2.1 h
    rw [zbo (x.2.2.getD i zCo).1 (0,0) hjl]
    intro d hd
    rcases yas.1 hd with hd | hd
    ·exact hjs d hd
    ·rw [yat.1 hd];exact zea.1 h
   ·show (((x.2.2.getD i zCo).1.length:Int) - ((j:Int)+1)).toNat<(((x.2.2.getD i zCo).1.length:Int) - (j:Int)).toNat
    omega
  ·have hd2:¬ (j:Int)<((x.2.2.getD i zCo).1.length:Int):=of_decide_eq_false hd2
   rw [ybT (by omega)] at hjs
   refine ⟨?_,by simp only [Z.in64];omega,⟨i+1,rfl,hil,hs.symm,?_⟩,?_⟩
   ·show Z.in64 (n+((x.2.2.getD i zCo).1.length:Int))
    rw [<-hs]
    simp only [Z.in64];omega
   ·rw [hts]
    intro c hc
    rcases yas.1 hc with hc | hc
    ·exact hall c hc
    ·rw [yat.1 hc];exact ⟨g1,g2,hjs⟩
   ·show ((x.2.2.length:Int) - ((i:Int)+1)).toNat<((x.2.2.length:Int) - (i:Int)).toNat
    omega
 ·have hd:¬ (i:Int)<(x.2.2.length:Int):=of_decide_eq_false hd
  rw [ybT (by omega)] at en hall
  show decide (n<=9)=paintB x
  refine zgN ?_
  rw [decide_eq_true_eq,zdW]
  exact ⟨fun h=>⟨d1,d2,by omega,hall,by omega⟩,fun P=>by have:=P.sum;omega⟩
theorem v111 (x:(List Int) × List Int) (hp:k111.pre x):V111 x:=by
 have h:x.1.length<=big:=hp
 simp only [big] at h
 have hval:zcF x=(x.1==x.2):=rfl
 refine ⟨fun h=>?_,fun hl=>?_⟩
 ·rw [hval]
  refine (beq_eq_false_iff_ne.2 fun e=>?_).symm
  have h:=not_iff.1.1 h
  rw [e] at h;simp at h
 have hl:(x.1.length:Int)=(x.2.length:Int):=eq_of_beq (not_iff.2.1 hl)
 refine ⟨fun s=>∃ i:Nat,s=(i:Int)/\i<=x.1.length/\∀ j,j<i->x.1.getD j 0=x.2.getD j 0,fun s=>((x.1.length:Int) - s).toNat,⟨0,rfl,by omega,fun j hj=>by omega⟩,?_⟩
 rintro s ⟨i,rfl,hi,hj⟩
 refine ⟨fun hd=>?_,fun hd=>?_⟩
 ·have hd:(i:Int)<(x.1.length:Int):=of_decide_eq_true hd
  simp only [ydx]
  refine ⟨⟨by omega,hd⟩,⟨by omega,by omega⟩,fun h=>?_,fun h=>⟨by simp only [Z.in64];omega,⟨i+1,rfl,by omega,fun j hj2=>?_⟩,?_⟩⟩
  ·rw [hval]
   refine (beq_eq_false_iff_ne.2 fun e=>?_).symm
   have h:=not_iff.1.1 h
   rw [e] at h;simp at h
  ·by_cases e:j=i
   ·subst e;exact eq_of_beq (not_iff.2.1 h)
   ·exact hj j (by omega)
  ·show ((x.1.length:Int) - ((i:Int)+1)).toNat<((x.1.length:Int) - (i:Int)).toNat
   omega
 ·have hd:¬ (i:Int)<(x.1.length:Int):=of_decide_eq_false hd
  rw [hval]
  refine (beq_iff_eq.2 ?_).symm
  refine List.ext_getElem (by omega) fun j h1 h2=>?_
  have:=hj j (by omega)
  simpa [ydd,h1,h2] using this
theorem zhB {l:List Coats} (h:l.length<=4):coatsN l=sumN 4 fun i=>((l.getD i zCo).1.length:Int):=by
 match l,h with
 | [],_=>rfl
 | [a],_=>simp [coatsN,zbA,zer]
 | [a,b],_=>simp [coatsN,zbA,zer]
 | [a,b,c],_=>simp [coatsN,zbA,zer]<;>omega
 | [a,b,c,d],_=>simp [coatsN,zbA,zer]<;>omega
 | _::_::_::_::_::_,h=>simp at h
theorem ShopOk.is {s:Shop} (S:ShopOk s):PaintIs s.1:=zdW.1 S.paint
theorem ShopOk.many9 {s:Shop} (S:ShopOk s):0<=manyN s/\manyN s<=coatsN s.1.2.2/\coatsN s.1.2.2<=9:=by
 have P:=S.is
 refine ⟨zgU fun i hi=>(S.many i hi).1,?_,P.sum⟩
 rw [zhB P.n.2]
 exact sumN_le fun i hi=>(S.many i hi).2
theorem ShopOk.batch {s:Shop} (S:ShopOk s) {b:Int} (h0:0<=b) (h1:b<(s.1.2.2.length:Int)):s.1.2.2.getD b.toNat zCo∈s.1.2.2:=zbS _ _ _ (by omega)
theorem ShopOk.len9 {s:Shop} (S:ShopOk s) {i:Nat} (hi:i<4):((dryN s.1 i).length:Int)<=9:=by
 have P:=S.is
 have h1:=P.sum
 rw [zhB P.n.2] at h1
 have:=sumN_ge (n:=4) (f:=fun i=>((s.1.2.2.getD i zCo).1.length:Int)) (fun i _=>by omega) hi
 exact Int.le_trans this h1
theorem ShopOk.dry {s:Shop} (S:ShopOk s) {b:Int} (h0:0<=b) (h1:b<(s.1.2.2.length:Int)) (h2:(hadN s b.toNat).1<((dryN s.1 b.toNat).length:Int)):0<=(dryD s b).1/\(dryD s b).1<=(dryD s b).2/\(dryD s b).2<=1000:=by
 have P:=S.is
 have hn:=P.n
 have ht:=S.many b.toNat (by omega)
 exact (P.batch _ (S.batch h0 h1)).2.2 _ (zbS (dryN s.1 b.toNat) (0,0) (hadN s b.toNat).1.toNat (by omega))
theorem v172 (x:Shop × Int) (hp:k172.pre x):V172 x:=by
 have S:ShopOk x.1:=hp
 have hn:=S.is.n
 refine ⟨by simp only [Z.in64];omega,trivial,fun h=>?_,fun h=>?_⟩
 ·have h:inB x.2 0 ((x.1.1.2.2.length:Int) - 1)=false:=not_iff.1.1 h
  show 2=mayV x.1 x.2
  rw [mayV,h];rfl
 have h:inB x.2 0 ((x.1.1.2.2.length:Int) - 1)=true:=not_iff.2.1 h
 have hr:=inB_iff.1 h
 refine ⟨⟨hr.1,by omega⟩,⟨hr.1,by omega⟩,fun h2=>?_,fun h2=>?_⟩
 ·show 9=mayV x.1 x.2
  rw [mayV,h]
  show 9=cond (decide (((dryN x.1.1 x.2.toNat).length:Int)<=(hadN x.1 x.2.toNat).1)) 9 0
  rw [show decide (((dryN x.1.1 x.2.toNat).length:Int)<=(hadN x.1 x.2.toNat).1)=true from h2];rfl
 ·show 0=mayV x.1 x.2
  rw [mayV,h]
  show 0=cond (decide (((dryN x.1.1 x.2.toNat).length:Int)<=(hadN x.1 x.2.toNat).1)) 9 0
  rw [show decide (((dryN x.1.1 x.2.toNat).length:Int)<=(hadN x.1 x.2.toNat).1)=false from h2];rfl
theorem v174 (x:Shop × DipS) (hp:k174.pre x):V174 x:=by
 obtain ⟨S,h0,h1⟩:ShopOk x.1/\0<=x.2.1/\x.2.1<(x.1.1.2.2.length:Int):=hp
 have P:=S.is
 have hn:=P.n
 have hm:=S.many9
 have ht:=S.time x.2.1.toNat (by omega)
 have hb:=(P.batch _ (S.batch h0 h1)).2.1
 refine ⟨⟨h0,by omega⟩,fun _=>⟨h0,h1⟩,fun _=>?_,rfl⟩
 show Z.in64 ((hadN x.1 x.2.1.toNat).2.2.1+(x.1.1.2.2.getD x.2.1.toNat zCo).2)
 simp only [Z.in64];omega
theorem v120 (x:Shop × DipS) (hp:k120.pre x):V120 x:=by
 obtain ⟨S,⟨h0,h1⟩,h2,h3,h4⟩:ShopOk x.1/\(0<=x.2.1/\x.2.1<(x.1.1.2.2.length:Int))/\(hadN x.1 x.2.1.toNat).1<((dryN x.1.1 x.2.1.toNat).length:Int)/\0<=x.2.2/\x.2.2<=1000000:=hp
 have P:=S.is
 have hn:=P.n
 have hd:=P.dip
 have hm:=S.many9
 have ht:=S.many x.2.1.toNat (by omega)
 have hdr:=S.dry h0 h1 h2
 have h9:=S.len9 (i:=x.2.1.toNat) (by omega)
 refine ⟨⟨h0,by omega⟩,⟨h0,h1⟩,⟨ht.1,h2⟩,by simp only [Z.in64];omega,?_,?_,?_,rfl⟩
 ·show Z.in64 ((hadN x.1 x.2.1.toNat).1+1)
  simp only [Z.in64];omega
 ·show Z.in64 (x.2.2+x.1.1.1+(dryD x.1 x.2.1).1)
  simp only [Z.in64];omega
 ·show Z.in64 (x.2.2+x.1.1.1+(dryD x.1 x.2.1).2)
  simp only [Z.in64];omega
theorem v115 (x:Shop) (hp:k115.pre x):V115 x:=by
 have S:ShopOk x:=hp
 refine ⟨fun s=>∃ i:Nat,s.2=(i:Int)/\i<=4/\s.1=(List.range i).foldl (fun h i=>max h (hadN x i).2.2.2) 0,fun s=>(4 - s.2).toNat,⟨0,rfl,by omega,rfl⟩,?_⟩
 rintro ⟨n,i'⟩ ⟨i,ei,hi,en⟩
 simp only at ei en
 subst ei
 refine ⟨fun hd=>?_,fun hd=>?_⟩
 ·have hd:(i:Int)<4:=of_decide_eq_true hd
  refine ⟨⟨by omega,hd⟩,by simp only [Z.in64];omega,⟨i+1,rfl,by omega,?_⟩,?_⟩
  ·rw [ydL,ydJ,<-en];rfl
  ·show (4 - ((i:Int)+1)).toNat<(4 - (i:Int)).toNat
   omega
 ·have hd:¬ (i:Int)<4:=of_decide_eq_false hd
  have:i=4:=by omega
  subst this
  exact en
theorem v201 (x:Shop × Int × Int) (_:k201.pre x):V201 x:=rfl
theorem zhr (s:Shop) (but hour:Int) (i:Nat):hangV s but hour (i+1)=hangV s but hour i++cond (hangB s but hour i) [(hadN s i).2.2.2] []:=by
 rw [hangV,ydL,List.flatMap_append];simp [hangV]
theorem zin (s:Shop) (but hour:Int) (i:Nat):∀ d,∃ r,hangV s but hour (i+d)=hangV s but hour i++r
 | 0=>⟨[],by simp⟩
 | d+1=>by
  obtain ⟨r,hr⟩:=zin s but hour i d
  exact ⟨r++cond (hangB s but hour (i+d)) [(hadN s (i+d)).2.2.2] [],by rw [<-Nat.add_assoc,zhr,hr,yaz]⟩
theorem zlw (s:Shop) (but hour:Int):∀ n,(hangV s but hour n).length<=n
 | 0=>by simp [hangV]
 | n+1=>by
  have:=zlw s but hour n
  rw [zhr,yao]
  cases hangB s but hour n<;>simp<;>omega
theorem v213 (ly:Nat) (x:Shop × Int × Int) (hp:zbs x):V213 ly x:=by
 have S:ShopOk x.1:=hp
 have hn:=S.is.n
 have hval:zax x=hangV x.1 x.2.1 x.2.2 x.1.1.2.2.length:=rfl
 unfold V213
 simp only [true_and,and_true,hval,Bool.not_true,Bool.not_false,Bool.and_false,Bool.and_true,Bool.false_eq_true,false_implies,Bool.true_eq_false,forall_const]
 refine ⟨fun s=>∃ i:Nat,s.1=(i:Int)/\i<=x.1.1.2.2.length/\s.2.1=hangV x.1 x.2.1 x.2.2 i/\s.2.2=false,fun s=>((x.1.1.2.2.length:Int) - s.1).toNat,⟨0,rfl,by omega,rfl,rfl⟩,?_⟩
 rintro ⟨i',l,d⟩ ⟨i,ei,hi,el,ed⟩
 simp only at ei el ed
 subst ei ed
 have hs:=zhr x.1 x.2.1 x.2.2 i
 refine ⟨fun hd=>?_,fun hd _=>?_⟩
 ·have hd:(i:Int)<(x.1.1.2.2.length:Int):=of_decide_eq_true hd
  refine ⟨⟨by show (0:Int)<=(i:Int);omega,by show (i:Int)<4;omega⟩,fun hc=>⟨by first | rfl | trivial,?_,⟨by simp only [Z.in64];omega,⟨i+1,rfl,by omega,?_,by first | rfl | trivial⟩,?_⟩,?_⟩,fun hc=>?_⟩
  ·have hc:hangB x.1 x.2.1 x.2.2 i=true:=hc
   obtain ⟨r,hr⟩:=zin x.1 x.2.1 x.2.2 (i+1) (x.1.1.2.2.length - (i+1))
   rw [show i+1+(x.1.1.2.2.length - (i+1))=x.1.1.2.2.length by omega,hs,hc,cond_true,<-el,yaz] at hr
   exact ⟨r,hr⟩
  ·have hc:hangB x.1 x.2.1 x.2.2 i=true:=hc
   rw [hs,hc,cond_true,<-el];rfl
  ·show ((x.1.1.2.2.length:Int) - ((i:Int)+1)).toNat<((x.1.1.2.2.length:Int) - (i:Int)).toNat
   omega
  ·exact ⟨fun _=>trivial,fun hc2=>by rw [hc] at hc2;cases hc2⟩
  ·refine ⟨fun hc2=>(by rw [hc] at hc2;cases hc2),fun _=>⟨by simp only [Z.in64];omega,⟨i+1,rfl,by omega,?_,by first | rfl | trivial⟩,?_⟩⟩
   ·have hc:hangB x.1 x.2.1 x.2.2 i=false:=hc
    rw [hs,hc,cond_false,ydv];exact el
   ·show ((x.1.1.2.2.length:Int) - ((i:Int)+1)).toNat<((x.1.1.2.2.length:Int) - (i:Int)).toNat
    omega
 ·have hd:¬ (i:Int)<(x.1.1.2.2.length:Int):=of_decide_eq_false hd
  have:i=x.1.1.2.2.length:=by omega
  subst this
  exact el
end Go.Tt
/-
 Coat: when a dip begins.
-/
namespace Go.Tt
open Go Go.Sx
theorem zot {α:Type} (A:List α) (a:α) (T:List α) (d:α):(A++a::T).getD A.length d=a:=by simp [ydd]
theorem znC {α:Type} (A:List α) (a b:α) (T:List α) (d:α):(A++a::b::T).getD (A.length+1) d=b:=by
 simp [ydd]
theorem zos {α:Type} (A:List α) (a b:α) (T:List α):((A++a::b::T).set (A.length+1) a).set A.length b=A++b::a::T:=by
 rw [ydM (h:=by omega),show A.length+1 - A.length=1 by omega,ydM (h:=by omega),Nat.sub_self]
 rfl
theorem zjZ {lt:Int->Int->Bool} {x:Int}:∀ {R S:List Int},(∀ y∈R,lt x y=true)->insR lt x (R++S)=R++insR lt x S
 | [],_,_=>rfl
 | y::R,S,h=>by
  rw [yaC,insR,h y yam,cond_true,zjZ (R:=R) fun z hz=>h z (yal _ hz)]
  rfl
theorem zjY {lt:Int->Int->Bool} {x:Int}:∀ {R:List Int},ydN (insR lt x R) (x::R)
 | []=>.refl _
 | y::R=>by
  rw [insR]
  cases lt x y
  ·exact .refl _
  ·exact ((zjY (R:=R)).cons y).trans (.swap x y R)
def accV (lt:Int->Int->Bool) (l:List Int):List Int:=l.foldl (fun r x=>insR lt x r) []
theorem acc_app {lt:Int->Int->Bool} (l:List Int) (x:Int):accV lt (l++[x])=insR lt x (accV lt l):=by simp only [accV,ydJ,List.foldl_cons,List.foldl_nil]
theorem zgx {lt:Int->Int->Bool}:∀ {l r:List Int},ydN (l.foldl (fun r x=>insR lt x r) r) (l++r)
 | [],r=>.refl _
 | x::l,r=>by
  refine (zgx (l:=l) (r:=insR lt x r)).trans ?_
  refine (ydN.append_left l zjY).trans ?_
  rw [yaC]
  exact List.perm_middle
theorem zjn {lt:Int->Int->Bool} {l:List Int}:ydN (accV lt l) l:=by
 have:=zgx (lt:=lt) (l:=l) (r:=[])
 rwa [ydv] at this
theorem zjC {lt:Int->Int->Bool} {l:List Int}:ydN (sortV lt l) l:=(List.reverse_perm _).trans zjn
theorem znM {lt:Int->Int->Bool} {l:List Int}:(sortV lt l).length=l.length:=zjC.length_eq
theorem znL {lt:Int->Int->Bool} {l:List Int} {x:Int}:x∈sortV lt l↔x∈l:=zjC.mem_iff
theorem znI {α:Type} (l:List α) (d:α) (i:Int) (h0:0<=i) (h1:i<(l.length:Int)):l.take (i+1).toNat=l.take i.toNat++[l.getD i.toNat d]:=by
 rw [show (i+1).toNat=i.toNat+1 by omega,zbo l d (by omega)]
theorem zlW (l:List Int) (hlen:l.length<=8) (E:(Prod Int (List Int))->Prop) (hE:∀ i,E (i,sortI l)) :
  Z.LoopP (X:=(Prod Int (List Int))) (((0:Int)+1,l)) (fun s2 K2=>(((decide ((s2.1:Int)<(l.length:Int))=true)->Z.LoopP (X:=(Prod Int (List Int))) ((s2.1,s2.2)) (fun s3 K3=>(((decide (((0:Int):Int)<s3.1)=true)->((0:Int)<=s3.1/\(s3.1:Int)<(s3.2.length:Int)))/\(((decide (((0:Int):Int)<s3.1)=true)->Z.in64 (s3.1 - 1))/\(((decide (((0:Int):Int)<s3.1)=true)->((0:Int)<=(s3.1 - 1)/\((s3.1 - 1):Int)<(s3.2.length:Int)))/\((((decide (((0:Int):Int)<s3.1)&&decide ((s3.2.getD (yby s3.1) 0)<(s3.2.getD (yby (s3.1 - 1)) 0)))=true)->(Z.in64 (s3.1 - 1)/\(Z.in64 (s3.1 - 1)/\(((0:Int)<=(s3.1 - 1)/\((s3.1 - 1):Int)<(s3.2.length:Int))/\(((0:Int)<=s3.1/\(s3.1:Int)<(s3.2.length:Int))/\(((0:Int)<=s3.1/\(s3.1:Int)<(s3.2.length:Int))/\(((0:Int)<=(s3.1 - 1)/\((s3.1 - 1):Int)<((s3.2.set (yby s3.1) (s3.2.getD (yby (s3.1 - 1)) 0)).length:Int))/\(Z.in64 (s3.1 - 1)/\(K3 ((s3.1 - 1),((s3.2.set (yby s3.1) (s3.2.getD (yby (s3.1 - 1)) 0)).set (yby (s3.1 - 1)) (s3.2.getD (yby s3.1) 0))))))))))))/\(((decide (((0:Int):Int)<s3.1)&&decide ((s3.2.getD (yby s3.1) 0)<(s3.2.getD (yby (s3.1 - 1)) 0)))=false)->(Z.in64 (s2.1+1)/\(K2 ((s2.1+1),s3.2))))))))))/\((decide ((s2.1:Int)<(l.length:Int))=false)->E s2))):=by
 refine ⟨fun s=>(1<=s.1/\s.1<=(l.length:Int)+1)/\s.2=(accV (fun a b=>decide (a<b)) (l.take s.1.toNat)).reverse++l.drop s.1.toNat,fun s=>((l.length:Int)+1 - s.1).toNat,⟨⟨by show (1:Int)<=0+1;omega,by show (0:Int)+1<=(l.length:Int)+1;omega⟩,?_⟩,?_⟩
 ·show l=(accV (fun a b=>decide (a<b)) (l.take 1)).reverse++l.drop 1
  cases l<;>rfl
 rintro ⟨i,d⟩ ⟨⟨i1,i2⟩,hd⟩
 simp only at i1 i2 hd
 refine ⟨fun hi=>?_,fun hi=>?_⟩
 ·have hi:i<(l.length:Int):=of_decide_eq_true hi
  have hx:=zdr l 0 i (by omega) hi
  have edrop:=zgb l 0 i (by omega) hi
  have etake:=znI l 0 i (by omega) hi
  generalize l.getD i.toNat 0=x at hx edrop etake
  have hRl:(accV (fun a b=>decide (a<b)) (l.take i.toNat)).length=i.toNat:=by rw [zjn.length_eq,ybo];omega
  have hRm:∀ y∈accV (fun a b=>decide (a<b)) (l.take i.toNat),y∈l:=fun y hy=>ydI (zjn.mem_iff.1 hy)
  have hnext:accV (fun a b=>decide (a<b)) (l.take (i+1).toNat)=insR (fun a b=>decide (a<b)) x (accV (fun a b=>decide (a<b)) (l.take i.toNat)):=by rw [etake,acc_app]
  generalize accV (fun a b=>decide (a<b)) (l.take i.toNat)=R at hRl hRm hnext hd
  refine ⟨fun s=>(0<=s.1/\s.1<=i)/\∃ R1 R2,R=R1++R2/\(R2.length:Int)=s.1/\(∀ y∈R1,decide (x<y)=true)/\s.2=R2.reverse++x::(R1.reverse++l.drop (i+1).toNat),fun s=>s.1.toNat,⟨⟨by show 0<=i;omega,by show i<=i;omega⟩,[],R,rfl,by show (R.length:Int)=i;omega,fun _ h=>(by cases h),?_⟩,?_⟩
  ·show d=_
   rw [hd,edrop];rfl
  rintro ⟨j,e⟩ ⟨⟨j1,j2⟩,R1,R2,hR,hR2,hlt,he⟩
  simp only at j1 j2 hR2 he
  have hlen:(e.length:Int)=(l.length:Int):=by
   rw [he]
   have:R.length=R1.length+R2.length:=by rw [hR,yao]
   simp only [yao,ydO,ybU,List.length_drop]
   omega
  have stop:insR (fun a b=>decide (a<b)) x R2=x::R2->Z.in64 (i+1)/\((1<=i+1/\i+1<=(l.length:Int)+1)/\e=(accV (fun a b=>decide (a<b)) (l.take (i+1).toNat)).reverse++l.drop (i+1).toNat)/\((l.length:Int)+1 - (i+1)).toNat<((l.length:Int)+1 - i).toNat:=by
   intro hs
   refine ⟨by simp only [Z.in64];omega,⟨⟨by omega,by omega⟩,?_⟩,by omega⟩
   rw [hnext,hR,zjZ hlt,hs,he]
   simp
  by_cases hj:0<j
  ·have hj':decide ((0:Int)<j)=true:=decide_eq_true hj
   obtain ⟨y,R3,rfl⟩:∃ y R3,R2=y::R3:=by
    cases R2 with
    | nil=>simp at hR2;omega
    | cons y R3=>exact ⟨y,R3,rfl⟩
   simp only [ybU] at hR2
   have he2:e=R3.reverse++y::x::(R1.reverse++l.drop (i+1).toNat):=by rw [he];simp
   have ej:j.toNat=R3.reverse.length+1:=by simp only [ydO];omega
   have ej1:(j - 1).toNat=R3.reverse.length:=by simp only [ydO];omega
   have g1:e.getD j.toNat 0=x:=by rw [he2,ej,znC]
   have g2:e.getD (j - 1).toNat 0=y:=by rw [he2,ej1,zot]
   have hy:y∈l:=hRm y (by rw [hR];simp)
   refine ⟨fun _=>⟨j1,by show j<(e.length:Int);omega⟩,fun _=>by simp only [Z.in64];omega,fun _=>⟨by show 0<=j - 1;omega,by show j - 1<(e.length:Int);omega⟩,fun hc=>?_,fun hc=>?_⟩
   ·have hc:(decide ((0:Int)<j)&&decide (e.getD j.toNat 0<e.getD (j - 1).toNat 0))=true:=hc
    rw [g1,g2,hj',ycl] at hc
    refine ⟨by simp only [Z.in64];omega,by simp only [Z.in64];omega,⟨by show 0<=j - 1;omega,by show j - 1<(e.length:Int);omega⟩,⟨j1,by show j<(e.length:Int);omega⟩,⟨j1,by show j<(e.length:Int);omega⟩,⟨by show 0<=j - 1;omega,by rw [List.length_set];show j - 1<(e.length:Int);omega⟩,by simp only [Z.in64];omega,⟨⟨by show 0<=j - 1;omega,by show j - 1<=i;omega⟩,R1++[y],R3,by rw [hR];simp,by show (R3.length:Int)=j - 1;omega,?_,?_⟩,by show (j - 1).toNat<j.toNat;omega⟩
    ·intro z hz
     rcases yas.1 hz with hz | hz
     ·exact hlt z hz
     ·rw [yat.1 hz];exact hc
    ·show (e.set j.toNat (e.getD (j - 1).toNat 0)).set (j - 1).toNat (e.getD j.toNat 0)=_
     rw [g1,g2,he2,ej,ej1,zos]
     simp
   ·have hc:(decide ((0:Int)<j)&&decide (e.getD j.toNat 0<e.getD (j - 1).toNat 0))=false:=hc
    rw [g1,g2,hj',ycl] at hc
    exact stop (by rw [insR,hc];rfl)
  ·have hj':decide ((0:Int)<j)=false:=decide_eq_false hj
   have hR2':R2=[]:=by
    cases R2 with
    | nil=>rfl
    | cons y R3=>simp at hR2;omega
   have no:∀ {Q:Prop},decide ((0:Int)<j)=true->Q:=fun h=>by rw [hj'] at h;cases h
   refine ⟨no,no,no,fun hc=>?_,fun _=>stop (by rw [hR2'];rfl)⟩
   have hc:(decide ((0:Int)<j)&&decide (e.getD j.toNat 0<e.getD (j - 1).toNat 0))=true:=hc
   rw [hj',Bool.false_and] at hc
   cases hc
 ·have hi:¬ i<(l.length:Int):=of_decide_eq_false hi
  rw [hd,ybT (by omega),ydf (by omega),ydv]
  exact hE i
theorem pdq_ok (L:List Int) (hL:L.length<=4) (n0:Int) (E:(Prod Int (List Int))->Prop) (D:(Int × Int × Int × Bool × Bool × List Int)->Prop) (hE:∀ i,E (i,sortI L)) :
  Z.LoopP (X:=(Int × Int × Int × Bool × Bool × List Int)) (0,(L.length:Int),n0,true,true,L) (fun s0 K0=>Z.in64 (s0.2.1 - s0.1)/\((decide (s0.2.1 - s0.1<=12)=true->Z.in64 (s0.1+1)/\Z.LoopP (X:=(Prod Int (List Int))) (s0.1+1,s0.2.2.2.2.2) (fun s2 K2=>(((decide ((s2.1:Int)<s0.2.1)=true)->Z.LoopP (X:=(Prod Int (List Int))) ((s2.1,s2.2)) (fun s3 K3=>(((decide (s0.1<s3.1)=true)->((0:Int)<=s3.1/\(s3.1:Int)<(s3.2.length:Int)))/\(((decide (s0.1<s3.1)=true)->Z.in64 (s3.1 - 1))/\(((decide (s0.1<s3.1)=true)->((0:Int)<=(s3.1 - 1)/\((s3.1 - 1):Int)<(s3.2.length:Int)))/\((((decide (s0.1<s3.1)&&decide ((s3.2.getD (yby s3.1) 0)<(s3.2.getD (yby (s3.1 - 1)) 0)))=true)->(Z.in64 (s3.1 - 1)/\(Z.in64 (s3.1 - 1)/\(((0:Int)<=(s3.1 - 1)/\((s3.1 - 1):Int)<(s3.2.length:Int))/\(((0:Int)<=s3.1/\(s3.1:Int)<(s3.2.length:Int))/\(((0:Int)<=s3.1/\(s3.1:Int)<(s3.2.length:Int))/\(((0:Int)<=(s3.1 - 1)/\((s3.1 - 1):Int)<((s3.2.set (yby s3.1) (s3.2.getD (yby (s3.1 - 1)) 0)).length:Int))/\(Z.in64 (s3.1 - 1)/\(K3 ((s3.1 - 1),((s3.2.set (yby s3.1) (s3.2.getD (yby (s3.1 - 1)) 0)).set (yby (s3.1 - 1)) (s3.2.getD (yby s3.1) 0))))))))))))/\(((decide (s0.1<s3.1)&&decide ((s3.2.getD (yby s3.1) 0)<(s3.2.getD (yby (s3.1 - 1)) 0)))=false)->(Z.in64 (s2.1+1)/\(K2 ((s2.1+1),s3.2))))))))))/\((decide ((s2.1:Int)<s0.2.1)=false)->E s2))))/\(decide (s0.2.1 - s0.1<=12)=false->D s0))):=by
 refine ⟨fun s=>s=(0,(L.length:Int),n0,true,true,L),fun _=>0,rfl,?_⟩
 rintro s rfl
 refine ⟨by simp only [Z.in64];omega,fun _=>⟨by simp only [Z.in64];omega,?_⟩,fun hd=>?_⟩
 ·exact zlW L (by omega) E hE
 ·have:=of_decide_eq_false hd
  simp only at this
  omega
theorem zo {s:Shop} {but hour e:Int} {n:Nat} (h:e∈hangV s but hour n):∃ i,i<n/\e=(hadN s i).2.2.2/\hour<e:=by
 obtain ⟨i,hi,he⟩:=List.mem_flatMap.1 h
 cases hc:hangB s but hour i with
 | false=>rw [hc] at he;cases he
 | true =>
  rw [hc] at he
  have he:=yat.1 he
  subst he
  rw [hangB,yac] at hc
  exact ⟨i,List.mem_range.1 hi,rfl,of_decide_eq_true hc.2⟩
theorem zgH (s:Shop) (b:Int):s.2.2<=firstV s b/\(0<(hadN s b.toNat).1->(hadN s b.toNat).2.2.2<=firstV s b):=by
 by_cases h:0<(hadN s b.toNat).1
 ·rw [firstV,decide_eq_true h,cond_true];omega
 ·rw [firstV,decide_eq_false h,cond_false];omega
theorem zlz {s:Shop} {b B:Int} (h1:s.2.2<=B) (h2:(hadN s b.toNat).2.2.2<=B):firstV s b<=B:=by
 by_cases h:0<(hadN s b.toNat).1
 ·rw [firstV,decide_eq_true h,cond_true];omega
 ·rw [firstV,decide_eq_false h,cond_false];omega
theorem zjW {s:Shop} {b e:Int} (h:e∈leaveV s b):∃ i,i<s.1.2.2.length/\e=(hadN s i).2.2.2:=by
 obtain ⟨i,hi,he,_⟩:=zo (znL.1 h)
 exact ⟨i,hi,he⟩
theorem time_ge (s:Shop) (b:Int):firstV s b<=timeV s b:=by
 by_cases h:s.1.2.1<=((leaveV s b).length:Int)
 ·rw [timeV,decide_eq_true h,cond_true];omega
 ·rw [timeV,decide_eq_false h,cond_false];omega
theorem time_le {s:Shop} {b B:Int} (S:ShopOk s) (hb:0<=b/\b<(s.1.2.2.length:Int)) (h1:s.2.2<=B) (h2:∀ i,i<4->(hadN s i).2.2.2<=B):timeV s b<=B:=by
 have P:=S.is
 have hn:=P.n
 have hf:=zlz h1 (h2 b.toNat (by omega))
 by_cases h:s.1.2.1<=((leaveV s b).length:Int)
 ·have hr:=P.racks
  obtain ⟨i,hi,he⟩:=zjW (zbS (leaveV s b) 0 (((leaveV s b).length:Int) - s.1.2.1).toNat (by omega))
  have:=h2 i (by omega)
  have hd:=P.dip
  rw [timeV,decide_eq_true h,cond_true,he];omega
 ·rw [timeV,decide_eq_false h,cond_false];exact hf
theorem wrap5:∀ n,n<5->Go.IntKind.wrap .u64 ((n:Nat):Int)=(n:Int):=of_decide_eq_true (by kernel_rfl)
theorem v173 (x:Shop × Int) (hp:k173.pre x):V173 x:=by
 obtain ⟨S,h0,h1⟩:ShopOk x.1/\0<=x.2/\x.2<(x.1.1.2.2.length:Int):=hp
 have P:=S.is
 have hn:=P.n
 have hd:=P.dip
 have hr:=P.racks
 have hfr:=S.free
 have ht:=S.time x.2.toNat (by omega)
 have hms:∀ e∈leaveV x.1 x.2,0<=e/\e<=1000000:=fun e he=>by
  obtain ⟨i,hi,rfl⟩:=zjW he
  have:=S.time i (by omega)
  omega
 have hH:=zlw x.1 x.2 (firstV x.1 x.2+x.1.1.1) x.1.1.2.2.length
 have hb1:=zlz (b:=x.2) hfr.2 ht.2.2
 have hb2:=(zgH x.1 x.2).1
 have hT:timeV x.1 x.2=cond (decide (x.1.1.2.1<=((leaveV x.1 x.2).length:Int))) (max (firstV x.1 x.2) ((leaveV x.1 x.2).getD (((leaveV x.1 x.2).length:Int) - x.1.1.2.1).toNat 0 - x.1.1.1)) (firstV x.1 x.2):=rfl
 unfold V173
 simp only [true_and,eq_self,zcS,implies_true,zcb]
 have tail:∀ (f:Int),f=firstV x.1 x.2->Z.in64 (f+x.1.1.1)/\(∀ G:List Int,G=hangV x.1 x.2 (f+x.1.1.1) x.1.1.2.2.length->G.length<=4/\sortI G=leaveV x.1 x.2):=fun f hf=>by
  refine ⟨by rw [hf];simp only [Z.in64];omega,fun G hG=>?_⟩
  subst hf hG
  exact ⟨by omega,rfl⟩
 have last:∀ (f:Int) (l:List Int),f=firstV x.1 x.2->l=leaveV x.1 x.2->(decide (x.1.1.2.1<=(l.length:Int))=true->Z.in64 ((l.length:Int) - x.1.1.2.1)/\(0<=(l.length:Int) - x.1.1.2.1/\(l.length:Int) - x.1.1.2.1<(l.length:Int))/\Z.in64 (l.getD ((l.length:Int) - x.1.1.2.1).toNat 0 - x.1.1.1)/\max f (l.getD ((l.length:Int) - x.1.1.2.1).toNat 0 - x.1.1.1)=timeV x.1 x.2)/\(decide (x.1.1.2.1<=(l.length:Int))=false->f=timeV x.1 x.2):=by
  rintro f l rfl rfl
  have hll:(leaveV x.1 x.2).length<=4:=by rw [leaveV,sortI,znM];omega
  refine ⟨fun hc=>?_,fun hc=>by rw [hT,hc,cond_false]⟩
  have hc':x.1.1.2.1<=((leaveV x.1 x.2).length:Int):=of_decide_eq_true hc
  have:=hms _ (zbS (leaveV x.1 x.2) 0 (((leaveV x.1 x.2).length:Int) - x.1.1.2.1).toNat (by omega))
  exact ⟨by simp only [Z.in64];omega,⟨by omega,by omega⟩,by simp only [Z.in64];omega,by rw [hT,hc,cond_true]⟩
 have h1':∀ e:Int,zbF (x.1.2.2,[e]):=fun e=>by show 1<=big;simp [big]
 have wr:∀ G:List Int,G.length<=4->zcy (Go.IntKind.wrap .u64 (G.length:Int)):=fun G hG=>by
  show 0<=Go.IntKind.wrap .u64 (G.length:Int)/\_
  rw [wrap5 _ (by omega)]
  exact ⟨by omega,by omega⟩
 refine ⟨⟨h0,by omega⟩,fun hc=>?_,fun hc=>?_⟩
 ·have hf:zal (x.1.2.2,(List.replicate 1 0).set 0 (hadN x.1 x.2.toNat).2.2.2)=firstV x.1 x.2:=by
   rw [firstV,show decide (0<(hadN x.1 x.2.toNat).1)=true from hc];rfl
  have T:=tail _ hf
  have T2:=T.2 _ rfl
  refine ⟨h1' _,T.1,trivial,⟨S,by show (hangV x.1 x.2 _ _).length<=1000000;exact yah T2.1 (by decide)⟩,wr _ T2.1,pdq_ok _ T2.1 _ _ _ fun i=>?_⟩
  have L:=last _ _ hf T2.2
  dsimp only
  refine ⟨fun h=>?_,fun h=>?_⟩
  ·have L1:=L.1 h
   refine ⟨L1.1,L1.2.1,L1.2.2.1,by show 1<=big;simp [big],L1.2.2.2⟩
  ·exact L.2 h
 ·have hf:x.1.2.2=firstV x.1 x.2:=by
   rw [firstV,show decide (0<(hadN x.1 x.2.toNat).1)=false from hc];rfl
  have T:=tail _ hf
  have T2:=T.2 _ rfl
  refine ⟨T.1,trivial,⟨S,by show (hangV x.1 x.2 _ _).length<=1000000;exact yah T2.1 (by decide)⟩,wr _ T2.1,pdq_ok _ T2.1 _ _ _ fun i=>?_⟩
  have L:=last _ _ hf T2.2
  dsimp only
  refine ⟨fun h=>?_,fun h=>?_⟩
  ·have L1:=L.1 h
   refine ⟨L1.1,L1.2.1,L1.2.2.1,h1' _,L1.2.2.2⟩
  ·exact L.2 h
end Go.Tt
