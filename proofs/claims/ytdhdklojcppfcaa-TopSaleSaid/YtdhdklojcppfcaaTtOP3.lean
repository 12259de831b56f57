/-
  Chapter 10: conditions of Meets, Lack and Accept, proved.
-/
import Derived.Test.YtdhdklojcppfcaaTtOP2
set_option linter.all false
set_option maxRecDepth 100000
set_option maxHeartbeats 4000000
set_option linter.unusedVariables false
open Int renaming le_of_lt->yaT,le_trans->yaV,pow_pos->yaR,toNat->yby,toNat_natCast->ydw
open List renaming length_append->yao,length_map->ycK,length_take->ybo,mem_map->ycp,take_of_length_le->ydM
namespace Go.Tt
open Go Go.Sx
theorem v107 (x:(Option Market) × Int) (h:k107.pre x):V107 x:=by
 obtain ⟨⟨h0,hm⟩,hX⟩:=h
 have hl:(mkt x.1).2.2.length<=8:=by rw [hm.len];exact hm.m8
 refine ⟨h0,fun s=>0<=s.1/\s.1<=((mkt x.1).2.2.length:Int)/\∀ i:Nat,(i:Int)<s.1->s.2.1 (i:Nat)=some (touchB ((mkt x.1).2.2.getD i 0) x.2),fun s=>(((mkt x.1).2.2.length:Int) - s.1).toNat,⟨by simp,by simp,fun i hi=>(by exact absurd hi (by simp only;omega))⟩,?_⟩
 rintro ⟨i,f,g⟩ ⟨h1,h2,h3⟩
 simp only at h1 h2 h3 ⊢
 refine ⟨fun hi=>?_,fun hi=>?_⟩
 ·have hi:i<((mkt x.1).2.2.length:Int):=of_decide_eq_true hi
  have hs:=hm.serves _ (zbx (mkt x.1).2.2 0 i h1 hi)
  refine ⟨⟨h1,hi⟩,⟨hs.1,hX.1⟩,by simp only [Z.in64];omega,⟨by show 0<=i+1;omega,by show i+1<=((mkt x.1).2.2.length:Int);omega,fun j hj=>?_⟩,?_⟩
  ·show cond ((j:Int)==i) _ _=_
   by_cases e:(j:Int)=i
   ·subst e
    rw [beq_self_eq_true,cond_true]
    rfl
   ·rw [beq_eq_false_iff_ne.2 e,cond_false]
    exact h3 j (by omega)
  ·show (((mkt x.1).2.2.length:Int) - (i+1)).toNat<(((mkt x.1).2.2.length:Int) - i).toNat
   omega
 ·have hi:¬ i<((mkt x.1).2.2.length:Int):=of_decide_eq_false hi
  have p1:zbX ((mkt x.1).1,(⟨fun y=>zaH (x.2,y),fun y=>zai (x.2,y)⟩:Fun Int Bool),(⟨zbi,zaX⟩:Fun Int Int)) :=
   ⟨hm.a8,fun k k0 k8=>⟨hX.1,k0,by show k<64;omega⟩,fun a ha=>⟨trivial,hm.asked a ha⟩⟩
  have p2:zbX ((mkt x.1).2.1,(⟨fun y=>zaJ (y,f),fun y=>zaL (y,f)⟩:Fun Int Bool),(⟨zbi,zaX⟩:Fun Int Int)) :=
   ⟨hm.m8,fun k k0 k8=>trivial,fun a ha=>⟨trivial,hm.many a ha⟩⟩
  have id1:∀ l:List Int,l.map zaX=l:=fun l=>by
   have:zaX=id:=rfl
   rw [this,List.map_id]
  have e1:zaO ((mkt x.1).1,(⟨fun y=>zaH (x.2,y),fun y=>zai (x.2,y)⟩:Fun Int Bool),(⟨zbi,zaX⟩:Fun Int Int))=selS (fun k=>hasB x.2 (k:Nat)) (mkt x.1).1 0:=by
   show selS _ ((mkt x.1).1.map zaX) 0=_
   rw [id1];rfl
  have e2:zaO ((mkt x.1).2.1,(⟨fun y=>zaJ (y,f),fun y=>zaL (y,f)⟩:Fun Int Bool),(⟨zbi,zaX⟩:Fun Int Int))=selS (fun i=>touchB ((mkt x.1).2.2.getD i 0) x.2) (mkt x.1).2.1 0:=by
   show selS _ ((mkt x.1).2.1.map zaX) 0=_
   rw [id1]
   refine zjy fun j hj=>?_
   show (f ((0+j:Nat):Int)).getD false=_
   rw [h3 (0+j) (by have:=hm.len;omega)];rfl
  have b1:=selS_bd (p:=fun k=>hasB x.2 (k:Nat)) (l:=(mkt x.1).1) (k:=0) hm.asked
  have b2:=selS_bd (p:=fun i=>touchB ((mkt x.1).2.2.getD i 0) x.2) (l:=(mkt x.1).2.1) (k:=0) hm.many
  have c1:=hm.a8
  have c2:=hm.m8
  refine ⟨h0,p1,h0,p2,?_,?_⟩
  ·show Z.in64 (zaO ((mkt x.1).1,_) - zaO ((mkt x.1).2.1,_))
   rw [e1,e2]
   simp only [Z.in64,topN] at b1 b2 ⊢
   omega
  ·show zaO ((mkt x.1).1,_) - zaO ((mkt x.1).2.1,_)=lackM (mkt x.1) x.2
   rw [e1,e2];rfl
theorem can_bit (sh rd:Int) (o:Order) (hs:0<=sh) (ho:0<=o.1) :
  (((((yby ((Int.fdiv sh (2^(yby (o.1)))))) &&& (yby (1)):Nat):Int)==1)&&decide ((rd:Int)<=o.2.2.1))=canB sh rd o:=by
 rw [has_div hs ho];rfl
theorem v101 (x:Sale × Truth) (h:k101.pre x):V101 x:=by
 obtain ⟨h1,h2,h3⟩:=h
 have S:=zdQ.1 h1
 obtain ⟨⟨sup,ord⟩,many,ready,u⟩:=x
 have hs8:(sup.length:Int)<=8:=by have:=S.s8;simp only at this;omega
 have ho8:(ord.length:Int)<=8:=by have:=S.o8;simp only at this;omega
 have rm:∀ {n:Int},n<=100->Z.roomy 1 n:=fun hn=>zkq (by decide) (by decide) (by omega)
 refine ⟨trivial,trivial,fun s=>0<=s.1/\s.1<=(ord.length:Int)/\s.2.1=([],[],[])/\s.2.2=(ord.take s.1.toNat).map (fun o=>o.2.1),fun s=>((ord.length:Int) - s.1).toNat,⟨by simp,by simp,rfl,rfl⟩,?_⟩
 rintro ⟨i,c,l⟩ ⟨i1,i2,e1,e2⟩
 simp only at i1 i2 e1 e2 ⊢
 subst e1;subst e2
 have hlen:((ord.take i.toNat).map (fun o:Order=>o.2.1)).length<=8:=by rw [ycK,ybo];omega
 refine ⟨fun hi=>?_,fun hi=>?_⟩
 ·have hi:=of_decide_eq_true hi
  refine ⟨⟨i1,hi⟩,rm (by rw [yao];simp;omega),by simp only [Z.in64];omega,trivial,trivial,⟨by show 0<=i+1;omega,by show i+1<=_;omega,rfl,(zcF (fun o:Order=>o.2.1) ord (0,0,0,0) i i1 hi).symm⟩,?_⟩
  show ((ord.length:Int) - (i+1)).toNat<((ord.length:Int) - i).toNat
  omega
 ·have hi:=of_decide_eq_false hi
  have hfull:ord.take i.toNat=ord:=ydM (by omega)
  rw [hfull]
  refine ⟨fun s=>0<=s.1/\s.1<=(sup.length:Int)/\s.2.1=([],[],[])/\s.2.2.1=(sup.take s.1.toNat).map many.val/\s.2.2.2=(sup.take s.1.toNat).map (fun y=>setOf (ord.map (canB y.1 (ready.val y)))),fun s=>((sup.length:Int) - s.1).toNat,⟨by simp,by simp,rfl,rfl,rfl⟩,?_⟩
  rintro ⟨j,c,l,r⟩ ⟨j1,j2,e1,e2,e3⟩
  simp only at j1 j2 e1 e2 e3 ⊢
  subst e1;subst e2;subst e3
  have hl1:((sup.take j.toNat).map many.val).length<=8:=by rw [ycK,ybo];omega
  have hl2:((sup.take j.toNat).map (fun y=>setOf (ord.map (canB y.1 (ready.val y))))).length<=8:=by rw [ycK,ybo];omega
  refine ⟨fun hj=>?_,fun hj=>?_⟩
  ·have hj:=of_decide_eq_true hj
   obtain ⟨y,hy⟩:∃ y,y=sup.getD j.toNat (0,(0,0),0,0):=⟨_,rfl⟩
   have hym:y∈sup:=by rw [hy];exact zbx sup _ j j1 hj
   have hyo:=zek.1 (S.sup y hym)
   rw [<-hy]
   refine ⟨⟨j1,hj⟩,fun s=>0<=s.2/\s.2<=(ord.length:Int)/\s.1=setOf ((ord.take s.2.toNat).map (canB y.1 (ready.val y))),fun s=>((ord.length:Int) - s.2).toNat,⟨by simp,by simp,rfl⟩,?_⟩
   rintro ⟨a,k⟩ ⟨k1,k2,k3⟩
   simp only at k1 k2 k3 ⊢
   have klen:((ord.take k.toNat).map (canB y.1 (ready.val y))).length<=8:=by rw [ycK,ybo];omega
   refine ⟨fun hk=>?_,fun hk=>?_⟩
   ·have hk:=of_decide_eq_true hk
    obtain ⟨o,ho⟩:∃ o,o=ord.getD k.toNat (0,0,0,0):=⟨_,rfl⟩
    have hom:o∈ord:=by rw [ho];exact zbx ord _ k k1 hk
    have hoo:=zgi.1 (S.ord o hom)
    have et:=zcF (canB y.1 (ready.val y)) ord (0,0,0,0) k k1 hk
    rw [<-ho] at et ⊢
    refine ⟨⟨k1,hk⟩,⟨hoo.1.1,by have:=hoo.1.2;omega⟩,⟨?_,by decide⟩,fun _=>h3 y,fun hb=>?_,fun hb=>?_⟩
    ·rw [Int.fdiv_eq_ediv_of_nonneg _ (yaT (yaR (by decide)))]
     exact Int.ediv_nonneg hyo.1.1 (yaT (yaR (by decide)))
    ·rw [can_bit y.1 (ready.val y) o hyo.1.1 hoo.1.1] at hb
     have ha:=zfH klen
     rw [<-k3] at ha
     refine ⟨shl_ok k1 (by omega),⟨ha.1,pow_nn k⟩,by simp only [Z.in64];omega,?_,trivial,?_,?_,?_,⟨by show 0<=k+1;omega,by show k+1<=_;omega,?_⟩,?_⟩
     all_goals first | trivial | rfl | skip
     ·show (((a.toNat ||| (1*2^k.toNat:Int).toNat:Nat):Int))=setOf ((ord.take (k+1).toNat).map (canB y.1 (ready.val y)))
      rw [et,hb,k3]
      have e1:(1*2^k.toNat:Int).toNat=2^k.toNat:=by rw [Int.one_mul,pow_int];exact ydw _
      have e2:((ord.take k.toNat).map (canB y.1 (ready.val y))).length=k.toNat:=by rw [ycK,ybo];omega
      rw [e1]
      simp only [setOf,ydw]
      rw [<-setN_or,e2]
     ·show ((ord.length:Int) - (k+1)).toNat<((ord.length:Int) - k).toNat
      omega
    ·rw [can_bit y.1 (ready.val y) o hyo.1.1 hoo.1.1] at hb
     refine ⟨by simp only [Z.in64];omega,?_,trivial,?_,?_,?_,⟨by show 0<=k+1;omega,by show k+1<=_;omega,?_⟩,?_⟩
     all_goals first | trivial | rfl | skip
     ·show a=setOf ((ord.take (k+1).toNat).map (canB y.1 (ready.val y)))
      rw [et,hb,k3]
      simp only [setOf]
      rw [zhM]
      simp [bitN]
     ·show ((ord.length:Int) - (k+1)).toNat<((ord.length:Int) - k).toNat
      omega
   ·have hk:=of_decide_eq_false hk
    have kfull:ord.take k.toNat=ord:=ydM (by omega)
    rw [kfull] at k3
    have e1:=zcF many.val sup (0,(0,0),0,0) j j1 hj
    have e2:=zcF (fun y=>setOf (ord.map (canB y.1 (ready.val y)))) sup (0,(0,0),0,0) j j1 hj
    rw [<-hy] at e1 e2
    refine ⟨h2 y,rm (by rw [yao];simp;omega),rm (by rw [yao];simp;omega),by simp only [Z.in64];omega,?_,⟨by show 0<=j+1;omega,by show j+1<=_;omega,trivial,e1.symm,?_⟩,?_⟩
    all_goals first | trivial | rfl | skip
    ·show _++[a]=_
     rw [e2,k3]
    ·show ((sup.length:Int) - (j+1)).toNat<((sup.length:Int) - j).toNat
     omega
  ·have hj:=of_decide_eq_false hj
   have jfull:sup.take j.toNat=sup:=ydM (by omega)
   rw [jfull]
   exact ⟨trivial,rfl⟩
theorem zlN {s:Sale} (h:saleB s=true) {many ready:Supply->Int} (hm:∀ x∈s.1,amount (many x)):MarketOk (marketV many ready s):=by
 have S:=zdQ.1 h
 refine ⟨by simpa [marketV] using S.o8,by simpa [marketV] using S.s8,by simp [marketV],fun n hn=>?_,fun n hn=>?_,fun n hn=>?_⟩
 ·obtain ⟨o,ho,rfl⟩:=ycp.1 hn
  exact (zgi.1 (S.ord o ho)).2.1
 ·obtain ⟨o,ho,rfl⟩:=ycp.1 hn
  exact hm o ho
 ·obtain ⟨o,ho,rfl⟩:=ycp.1 hn
  exact zfH (by rw [ycK];exact S.o8)
theorem zhF {s:Sale} (h:saleB s=true):MarketOk (worstM s):=zlN h fun x hx=>by
 have:=zek.1 ((zdQ.1 h).sup x hx)
 exact ⟨this.2.1.1,yaV this.2.1.2.1 this.2.1.2.2⟩
theorem best_ok {s:Sale} (h:saleB s=true):MarketOk (bestM s):=zlN h fun x hx=>by
 have:=zek.1 ((zdQ.1 h).sup x hx)
 exact ⟨yaV this.2.1.1 this.2.1.2.1,this.2.1.2.2⟩
theorem zj {n:Nat} (h:n<=8):smallSet (allV n):=by
 have h1:(2:Nat)^n<=2^8:=Nat.pow_le_pow_right (by decide) h
 have h2:0<2^n:=Nat.pow_pos (by decide)
 have:(2^n:Int)=((2^n:Nat):Int):=by simp
 simp only [smallSet,allV,this]
 omega
theorem v41 (x:Sale) (_:k41.pre x):V41 x:=by
 refine ⟨trivial,fun h=>?_,fun h=>?_⟩
 ·have h:saleB x=false:=by simpa using (show (!saleB x)=true from h)
  show _=zaE x
  rw [zaE,h];rfl
 ·have h:saleB x=true:=by simpa using (show (!saleB x)=false from h)
  have hw:=zhF h
  have hb:=best_ok h
  have o8:=(zdQ.1 h).o8
  have eM:zaE x=cond (meetsM (worstM x) (allV x.2.length)) (2,0) (cond (meetsM (bestM x) (allV x.2.length)) (1,0) (0,0)):=by rw [zaE,h];rfl
  have l1:(worstM x).1.length=x.2.length:=by simp [worstM,marketV]
  have l2:(bestM x).1.length=x.2.length:=by simp [bestM,marketV]
  refine ⟨fun s=>(s=0)\/(s=1/\meetsM (worstM x) (allV x.2.length)=false)\/(s=2/\meetsM (worstM x) (allV x.2.length)=false/\meetsM (bestM x) (allV x.2.length)=false),fun s=>(2 - s).toNat,.inl rfl,?_⟩
  have hwm:zaU (zaf (x,worstT),zaD (zaf (x,worstT)))=meetsM (worstM x) (allV x.2.length):=by
   show meetsM (worstM x) (allV (worstM x).1.length)=_
   rw [l1]
  have hbm:zaU (zaf (x,bestT),zaD (zaf (x,bestT)))=meetsM (bestM x) (allV x.2.length):=by
   show meetsM (bestM x) (allV (bestM x).1.length)=_
   rw [l2]
  rintro s (rfl | ⟨rfl,hf⟩ | ⟨rfl,hf,hg⟩)
  ·refine ⟨fun _=>⟨⟨by decide,by decide⟩,⟨h,fun _=>trivial,fun _=>trivial⟩,⟨rfl,hw⟩,⟨⟨rfl,hw⟩,zj (show (worstM x).1.length<=8 from by rw [l1];exact o8)⟩,fun hh=>⟨by simp only [Z.in64];omega,?_⟩,fun hh=>⟨by simp only [Z.in64];omega,rfl,⟨.inr (.inl ⟨rfl,?_⟩),by decide⟩⟩⟩,fun hh=>(by cases hh)⟩
   ·have hh:=hwm.symm.trans hh
    rw [eM,hh];rfl
   ·exact hwm.symm.trans hh
  ·refine ⟨fun _=>⟨⟨by decide,by decide⟩,⟨h,fun _=>trivial,fun _=>trivial⟩,⟨rfl,hb⟩,⟨⟨rfl,hb⟩,zj (show (bestM x).1.length<=8 from by rw [l2];exact o8)⟩,fun hh=>⟨by simp only [Z.in64];omega,?_⟩,fun hh=>⟨by simp only [Z.in64];omega,rfl,⟨.inr (.inr ⟨rfl,hf,?_⟩),by decide⟩⟩⟩,fun hh=>(by cases hh)⟩
   ·have hh:=hbm.symm.trans hh
    rw [eM,hf,hh];rfl
   ·exact hbm.symm.trans hh
  ·refine ⟨fun hh=>(by cases hh),fun _=>?_⟩
   rw [eM,hf,hg];rfl
theorem v39 (x:Sale) (_:k39.pre x):V39 x:=by
 refine ⟨trivial,fun h=>?_,fun h=>?_⟩
 ·have h:saleB x=false:=by simpa using (show (!saleB x)=true from h)
  show _=zao x
  rw [zao,h];rfl
 ·have h:saleB x=true:=by simpa using (show (!saleB x)=false from h)
  have hw:=zhF h
  have o8:=(zdQ.1 h).o8
  have l1:(worstM x).1.length=x.2.length:=by simp [worstM,marketV]
  have has:smallSet (allV x.2.length):=zj o8
  have ha:zaD (zaf (x,worstT))=allV x.2.length:=by
   show allV (worstM x).1.length=_
   rw [l1]
  have eL:zao x=cond (mostV (lackM (worstM x)) (partsV (allV x.2.length))==(0,0)) (0,0,4) ((mostV (lackM (worstM x)) (partsV (allV x.2.length))).1,(mostV (lackM (worstM x)) (partsV (allV x.2.length))).2,0):=by rw [zao,h];rfl
  refine ⟨⟨h,fun _=>trivial,fun _=>trivial⟩,⟨rfl,hw⟩,trivial,by rw [ha];exact has,fun l b=>(∀ y∈l,smallSet y)/\smallSet b.1/\mostV (lackM (worstM x)) (partsV (allV x.2.length))=l.foldl (fun b y=>cond (worseB (y,lackM (worstM x) y) b) (y,lackM (worstM x) y) b) b,⟨fun y hy=>ziv has (by rw [<-ha];exact hy),⟨by decide,by decide⟩,?_⟩,?_,?_⟩
  ·rw [ha];rfl
  ·rintro e r b ⟨h1,h2,h3⟩
   have he:=h1 e List.mem_cons_self
   have hr:=fun y hy=>h1 y (List.mem_cons_of_mem e hy)
   rw [List.foldl_cons] at h3
   refine ⟨⟨⟨rfl,hw⟩,he⟩,⟨he,h2⟩,fun hb=>⟨rfl,hr,he,?_⟩,fun hb=>⟨rfl,hr,h2,?_⟩⟩
   ·have hb:worseB (e,lackM (worstM x) e) b=true:=hb
    rw [hb,cond_true] at h3;exact h3
   ·have hb:worseB (e,lackM (worstM x) e) b=false:=hb
    rw [hb,cond_false] at h3;exact h3
  ·rintro ⟨a,n⟩ ⟨_,_,h3⟩
   have h3:mostV (lackM (worstM x)) (partsV (allV x.2.length))=(a,n):=h3
   have e0:((a,n)==((0,0):Int × Int))=(a==0&&n==0):=rfl
   refine ⟨fun hh=>?_,fun hh=>?_⟩
   ·rw [eL,h3,e0,hh];rfl
   ·rw [eL,h3,e0,hh];rfl
end Go.Tt
