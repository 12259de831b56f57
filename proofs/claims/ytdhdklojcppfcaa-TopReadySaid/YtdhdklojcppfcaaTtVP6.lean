/-
  Coat: the next dip, and a run of dips.
-/
import Derived.Test.YtdhdklojcppfcaaTtVP3
set_option linter.all false
set_option maxRecDepth 100000
set_option maxHeartbeats 4000000
open Bool renaming or_eq_false_iff->ydK
open Int renaming add_zero->ydS,sub_zero->ydT,toNat->yby,toNat_natCast->ydx
open List renaming append_assoc->yaz,append_nil->ydv,countP_append->ydP,foldl_append->ydJ,getD->ydd,getElem?_append_left->ycf,length_append->yao,length_replicate->ydR,length_set->ybW,length_take->ybo,mem_append->yas,mem_cons->yaq,mem_singleton->yat,range->yaf,range_succ->ydL,replicate->yaa,take_append_drop->ydQ
namespace Go.Tt
open Go Go.Sx
structure NextIs (s:Shop) (b:Int):Prop where
 rng:0<=b/\b<(s.1.2.2.length:Int)
 room:(hadN s b.toNat).1<((dryN s.1 b.toNat).length:Int)
 eq:nextV s b=(timeV s b,0,dipV s (b,timeV s b))
theorem zln {s:Shop} {b:Int} (h:mayV s b=0):(0<=b/\b<(s.1.2.2.length:Int))/\(hadN s b.toNat).1<((dryN s.1 b.toNat).length:Int):=by
 rw [mayV] at h
 cases h1:inB b 0 ((s.1.2.2.length:Int) - 1) with
 | false=>rw [h1] at h;cases h
 | true =>
  rw [h1] at h
  have h1:=inB_iff.1 h1
  by_cases h2:((dryN s.1 b.toNat).length:Int)<=(hadN s b.toNat).1
  ·rw [decide_eq_true h2] at h;cases h
  ·exact ⟨by omega,by omega⟩
theorem next_is {s:Shop} {b:Int} (h:(nextV s b).2.1=0):NextIs s b:=by
 by_cases hm:mayV s b=0
 ·have hm':(!(mayV s b==0))=false:=by rw [hm];rfl
  obtain ⟨h1,h2⟩:=zln hm
  rw [nextV,hm',cond_false] at h
  cases hl:lateB s (b,timeV s b) with
  | true=>rw [hl] at h;cases h
  | false=>exact ⟨h1,h2,by rw [nextV,hm',cond_false,hl];rfl⟩
 ·have hm':(!(mayV s b==0))=true:=by rw [beq_eq_false_iff_ne.2 hm];rfl
  rw [nextV,hm',cond_true] at h
  exact (hm h).elim
theorem v116 (x:Shop × Int) (hp:k116.pre x):V116 x:=by
 have S:ShopOk x.1:=hp
 refine ⟨S,fun h=>?_,fun h=>?_⟩
 ·show (0,mayV x.1 x.2,x.1)=nextV x.1 x.2
  rw [nextV,show (!(mayV x.1 x.2==0))=true from h];rfl
 have h:(!(mayV x.1 x.2==0))=false:=h
 have hm:mayV x.1 x.2=0:=eq_of_beq (not_iff.2.1 h)
 obtain ⟨h1,h2⟩:=zln hm
 have hb:=S.is.n
 have ht:=time_le S h1 S.free.2 fun i hi=>(S.time i hi).2.2
 have h0:=time_ge x.1 x.2
 have h3:=(zgH x.1 x.2).1
 have h4:=S.free.1
 refine ⟨⟨S,h1⟩,⟨S,h1⟩,fun hl=>?_,fun hl=>⟨⟨⟨S,h1,h2,by show 0<=timeV x.1 x.2;omega,ht⟩,trivial,trivial⟩,?_⟩⟩
 ·show (0,11,x.1)=nextV x.1 x.2
  rw [nextV,h,cond_false,show lateB x.1 (x.2,timeV x.1 x.2)=true from hl];rfl
 ·show (timeV x.1 x.2,0,dipV x.1 (x.2,timeV x.1 x.2))=nextV x.1 x.2
  rw [nextV,h,cond_false,show lateB x.1 (x.2,timeV x.1 x.2)=false from hl];rfl
theorem had_eq {s:Shop} {x:DipS} (h4:s.2.1.length=4) (hx:x.1.toNat<4):hadN (dipV s x) x.1.toNat=((hadN s x.1.toNat).1+1,x.2+s.1.1,x.2+s.1.1+(dryD s x.1).1,x.2+s.1.1+(dryD s x.1).2):=by
 simp [dipV,ydd,show x.1.toNat<s.2.1.length by omega]
theorem had_ne {s:Shop} {x:DipS} {i:Nat} (hi:i≠x.1.toNat):hadN (dipV s x) i=hadN s i:=by
 simp [dipV,ydd,List.getElem?_set_ne (Ne.symm hi)]
theorem znT {s:Shop} {x:DipS} (h4:s.2.1.length=4) (hx:x.1.toNat<4):manyN (dipV s x)=manyN s+1:=by
 have:=ziE (n:=4) (f:=fun i=>(hadN (dipV s x) i).1) (g:=fun i=>(hadN s i).1) (k:=x.1.toNat) fun i _ hi=>by rw [had_ne hi]
 rw [if_pos hx,had_eq h4 hx] at this
 show sumN 4 (fun i=>(hadN (dipV s x) i).1)=sumN 4 (fun i=>(hadN s i).1)+1
 rw [this]
 show sumN 4 _+(((hadN s x.1.toNat).1+1) - (hadN s x.1.toNat).1)=_
 omega
theorem ShopOk.dip {s:Shop} (S:ShopOk s) {b t:Int} (hb:0<=b/\b<(s.1.2.2.length:Int)) (hr:(hadN s b.toNat).1<((dryN s.1 b.toNat).length:Int)) (ht:0<=t/\t<=900000):ShopOk (dipV s (b,t)):=by
 have P:=S.is
 have hn:=P.n
 have hd:=P.dip
 have hx:b.toNat<4:=by omega
 have hdr:=S.dry hb.1 hb.2 hr
 have hm:=S.many b.toNat hx
 have e:=had_eq (s:=s) (x:=(b,t)) S.h4 hx
 refine ⟨S.paint,by show (s.2.1.set _ _).length=4;rw [ybW];exact S.h4,fun i hi=>?_,fun i hi=>?_,by show 0<=t+s.1.1/\t+s.1.1<=1000000;omega⟩
 ·by_cases hi':i=b.toNat
  ·subst hi'
   rw [e]
   show 0<=(hadN s b.toNat).1+1/\(hadN s b.toNat).1+1<=((dryN s.1 b.toNat).length:Int)
   omega
  ·rw [had_ne hi'];exact S.many i hi
 ·by_cases hi':i=b.toNat
  ·subst hi'
   rw [e]
   show (0<=t+s.1.1/\t+s.1.1<=t+s.1.1+(dryD s b).1)/\(t+s.1.1+(dryD s b).1<=t+s.1.1+(dryD s b).2/\t+s.1.1+(dryD s b).2<=1000000)
   omega
  ·rw [had_ne hi'];exact S.time i hi
theorem ShopR.time_bd {s:Shop} (R:ShopR s) {b:Int} (hb:0<=b/\b<(s.1.2.2.length:Int)):0<=timeV s b/\timeV s b<=2000*manyN s:=by
 have h1:=time_le R.ok hb R.free R.time
 have h2:=time_ge s b
 have h3:=(zgH s b).1
 have h4:=R.ok.free.1
 omega
theorem ShopR.next {s:Shop} (R:ShopR s) {b:Int} (N:NextIs s b):ShopR (dipV s (b,timeV s b))/\manyN (dipV s (b,timeV s b))=manyN s+1:=by
 have S:=R.ok
 have P:=S.is
 have hn:=P.n
 have hd:=P.dip
 have hb:=N.rng
 have hx:b.toNat<4:=by omega
 have hm9:=S.many9
 have ht:=R.time_bd hb
 have hdr:=S.dry hb.1 hb.2 N.room
 have hm:=znT (s:=s) (x:=(b,timeV s b)) S.h4 hx
 refine ⟨⟨S.dip hb N.room ⟨ht.1,by omega⟩,fun i hi=>?_,?_⟩,hm⟩
 ·rw [hm]
  by_cases hi':i=b.toNat
  ·subst hi'
   rw [had_eq (x:=(b,timeV s b)) S.h4 hx]
   show timeV s b+s.1.1+(dryD s b).2<=2000*(manyN s+1)
   omega
  ·rw [had_ne hi']
   have:=R.time i hi
   omega
 ·rw [hm]
  show timeV s b+s.1.1<=2000*(manyN s+1)
  omega
def endF (dip i:Int):List Int->List Int->Int->Int
 | b::l,t::ts,e=>endF dip i l ts (cond (b==i) (t+dip) e)
 | _,_,e=>e
theorem zhx (dip i:Int) (b t:Int):∀ (l ts:List Int) (e:Int),l.length=ts.length->endF dip i (l++[b]) (ts++[t]) e=cond (b==i) (t+dip) (endF dip i l ts e)
 | [],[],e,_=>rfl
 | a::l,u::ts,e,h=>zhx dip i b t l ts _ (by simpa using h)
 | [],_::_,_,h=>by simp at h
 | _::_,[],_,h=>by simp at h
def cntL (l:List Int) (i:Nat):Int:=(l.countP fun b=>b==((i:Nat):Int):Nat)
theorem zgM (l:List Int) (b:Int) (i:Nat):cntL (l++[b]) i=cntL l i+cond (b==((i:Nat):Int)) 1 0:=by
 simp only [cntL,ydP,List.countP_cons,List.countP_nil]
 cases b==((i:Nat):Int)<;>simp
theorem zjo (hour:Int) (s:Shop) {t t' l l':List Int}:∀ n,(∀ j,j<n->t.getD j 0=t'.getD j 0/\l.getD j 0=l'.getD j 0)->wetGo hour t l s n=wetGo hour t' l' s n
 | 0,_=>rfl
 | n+1,h=>by
  have ih:=zjo hour s n fun j hj=>h j (by omega)
  rw [wetGo,wetGo,ih,(h n (by omega)).1,(h n (by omega)).2]
structure RunIs (p:Paint) (l ts:List Int) (s:Shop):Prop where
 R:ShopR s
 pp:s.1=p
 many:manyN s=(l.length:Int)
 len:l.length=ts.length
 rng:∀ b∈l,0<=b/\b<(p.2.2.length:Int)
 cnt:∀ i,i<4->(hadN s i).1=cntL l i
 tb:∀ t∈ts,0<=t/\t<=18000
 dry:∀ i,i<4->0<(hadN s i).1->(hadN s i).2.2=((hadN s i).2.1+((dryN p i).getD ((hadN s i).1 - 1).toNat (0,0)).1,(hadN s i).2.1+((dryN p i).getD ((hadN s i).1 - 1).toNat (0,0)).2)
 zero:∀ i,i<4->(hadN s i).1=0->hadN s i=zHu
 ends:∀ i,i<4->(hadN s i).2.1=endF p.1 (i:Nat) l ts 0
 le:∀ j,j<l.length->ts.getD j 0+p.1<=(hadN s (l.getD j 0).toNat).2.1
 wet:∀ hour,(∀ j,j<l.length->ts.getD j 0+p.1<=hour)->wetGo hour ts l (shop0 p) l.length=s
 go:∀ rest,timesGo (shop0 p) (l++rest) [] 0=timesGo s rest ts (l.length:Int)
theorem had0 (p:Paint) {i:Nat} (hi:i<4):hadN (shop0 p) i=zHu:=by
 match i,hi with
 | 0,_=>rfl
 | 1,_=>rfl
 | 2,_=>rfl
 | 3,_=>rfl
 | n+4,h=>omega
theorem run_nil {p:Paint} (hp:paintB p=true):RunIs p [] [] (shop0 p):=by
 have hm:manyN (shop0 p)=0:=rfl
 refine ⟨⟨⟨hp,rfl,fun i hi=>?_,fun i hi=>?_,⟨by show (0:Int)<=0;omega,by show (0:Int)<=1000000;omega⟩⟩,fun i hi=>?_,?_⟩,rfl,hm,rfl,fun b h=>(by cases h),fun i hi=>?_,fun t h=>(by cases h),fun i hi h=>?_,fun i hi _=>had0 p hi,fun i hi=>?_,fun j hj=>(by simp at hj),fun _ _=>rfl,fun rest=>rfl⟩
 ·rw [had0 p hi];show (0:Int)<=0/\(0:Int)<=_;omega
 ·rw [had0 p hi];show ((0:Int)<=0/\(0:Int)<=0)/\((0:Int)<=0/\(0:Int)<=1000000);omega
 ·rw [had0 p hi,hm];show (0:Int)<=2000*0;omega
 ·rw [hm];show (0:Int)<=2000*0;omega
 ·rw [had0 p hi];rfl
 ·rw [had0 p hi] at h;simp at h
 ·rw [had0 p hi];rfl
theorem ziK {p:Paint} {l ts:List Int} {s:Shop} (r:RunIs p l ts s) {b:Int} (N:NextIs s b):RunIs p (l++[b]) (ts++[timeV s b]) (dipV s (b,timeV s b)):=by
 have S:=r.R.ok
 have P:=S.is
 have hn:=P.n
 have hb:=N.rng
 have hx:b.toNat<4:=by omega
 have hbb:((b.toNat:Nat):Int)=b:=by omega
 have hm9:=S.many9
 obtain ⟨R',hm⟩:=r.R.next N
 have ht:=r.R.time_bd hb
 have hpp:=r.pp
 have e:=had_eq (s:=s) (x:=(b,timeV s b)) S.h4 hx
 have mn:=S.many b.toNat hx
 have hge:=zgH s b
 have htg:=time_ge s b
 have htm:=S.time b.toNat hx
 have hend:(hadN s b.toNat).2.1<=timeV s b+s.1.1:=by
  have hd:=P.dip
  by_cases h0:(hadN s b.toNat).1=0
  ·rw [r.zero _ hx h0];show (0:Int)<=_;omega
  ·have:=hge.2 (by omega);omega
 have g1:∀ j,j<l.length->(l++[b]).getD j 0=l.getD j 0:=fun j hj=>by simp [ydd,ycf hj]
 have g2:∀ j,j<l.length->(ts++[timeV s b]).getD j 0=ts.getD j 0:=fun j hj=>by simp [ydd,ycf (show j<ts.length by rw [<-r.len];exact hj)]
 have g3:(l++[b]).getD l.length 0=b:=by simp [ydd]
 have g4:(ts++[timeV s b]).getD l.length 0=timeV s b:=by rw [r.len];simp [ydd]
 refine ⟨R',hpp,by rw [hm,r.many,yao];simp,by rw [yao,yao,r.len];rfl,fun c hc=>?_,fun i hi=>?_,fun t h=>?_,fun i hi h=>?_,fun i hi h=>?_,fun i hi=>?_,fun j hj=>?_,fun hour hh=>?_,fun rest=>?_⟩
 ·rcases yas.1 hc with hc | hc
  ·exact r.rng c hc
  ·rw [yat.1 hc,<-hpp];exact hb
 ·rw [zgM]
  by_cases hi':i=b.toNat
  ·subst hi'
   rw [e,hbb,beq_self_eq_true,<-r.cnt _ hx];rfl
  ·rw [had_ne hi',r.cnt i hi,show (b==((i:Nat):Int))=false from beq_eq_false_iff_ne.2 (by omega)];simp
 ·rcases yas.1 h with h | h
  ·exact r.tb t h
  ·rw [yat.1 h];omega
 ·by_cases hi':i=b.toNat
  ·subst hi'
   rw [e]
   show _=(timeV s b+s.1.1+((dryN p b.toNat).getD ((hadN s b.toNat).1+1 - 1).toNat (0,0)).1,timeV s b+s.1.1+((dryN p b.toNat).getD ((hadN s b.toNat).1+1 - 1).toNat (0,0)).2)
   rw [show (hadN s b.toNat).1+1 - 1=(hadN s b.toNat).1 by omega,<-hpp]
  ·rw [had_ne hi'] at h ⊢
   exact r.dry i hi h
 ·by_cases hi':i=b.toNat
  ·subst hi'
   rw [e] at h
   have h:(hadN s b.toNat).1+1=0:=h
   omega
  ·rw [had_ne hi'] at h ⊢
   exact r.zero i hi h
 ·rw [zhx _ _ _ _ _ _ _ r.len]
  by_cases hi':i=b.toNat
  ·subst hi'
   rw [e,hbb,beq_self_eq_true,cond_true,<-hpp]
  ·rw [had_ne hi',show (b==((i:Nat):Int))=false from beq_eq_false_iff_ne.2 (by omega),cond_false]
   exact r.ends i hi
 ·rw [yao] at hj
  have hj:j<l.length+1:=hj
  by_cases hjl:j<l.length
  ·rw [g1 j hjl,g2 j hjl]
   have:=r.le j hjl
   by_cases hi':(l.getD j 0).toNat=b.toNat
   ·rw [hi'] at this ⊢
    rw [e]
    show ts.getD j 0+p.1<=timeV s b+s.1.1
    omega
   ·rw [had_ne hi'];exact this
  ·have:j=l.length:=by omega
   subst this
   rw [g3,g4,e,hpp]
   exact Int.le_refl _
 ·rw [yao]
  show wetGo hour (ts++[timeV s b]) (l++[b]) (shop0 p) (l.length+1)=_
  have hw:wetGo hour (ts++[timeV s b]) (l++[b]) (shop0 p) l.length=s:=by
   rw [zjo hour (shop0 p) (t':=ts) (l':=l) l.length fun j hj=>⟨g2 j hj,g1 j hj⟩]
   refine r.wet hour fun j hj=>?_
   have:=hh j (by rw [yao];show j<l.length+1;omega)
   rwa [g2 j hj] at this
  have:=hh l.length (by rw [yao];show l.length<l.length+1;omega)
  rw [wetGo,hw,g3,g4]
  rw [g4] at this
  have hc:decide (timeV s b+(shop0 p).1.1<=hour)=true:=decide_eq_true this
  rw [hc];rfl
 ·rw [yaz,r.go]
  show timesGo s (b::rest) ts (l.length:Int)=_
  rw [timesGo,N.eq]
  show timesGo _ rest _ ((l.length:Int)+1)=_
  rw [yao];simp
end Go.Tt
/-
 Coat: the times of an order,what is wet,and the best order.
-/
namespace Go.Tt
open Go Go.Sx
theorem run9 {p:Paint} {l ts:List Int} {s:Shop} (r:RunIs p l ts s):l.length<=9:=by
 have:=r.R.ok.many9
 have:=r.many
 omega
theorem v45 (x:Paint × List Int) (hp:k45.pre x):V45 x:=by
 obtain ⟨hp,hl⟩:PaintP x.1/\x.2.length<=big:=hp
 simp only [big] at hl
 refine ⟨hp,fun h=>?_,fun h=>?_⟩
 ·show ([],0,1)=timesV x.1 x.2
  rw [timesV,show (!paintB x.1)=true from h];rfl
 have h':(!paintB x.1)=false:=h
 have hv:paintB x.1=true:=not_iff.2.1 h
 have P:=zdW.1 hv
 refine ⟨fun s=>∃ k:Nat,s.2.1=(k:Int)/\k<=x.2.length/\RunIs x.1 (x.2.take k) s.1 s.2.2,fun s=>((x.2.length:Int) - s.2.1).toNat,⟨0,rfl,by omega,run_nil hv⟩,?_⟩
 rintro ⟨ts,i,s⟩ ⟨k,ei,hk,r⟩
 simp only at ei r
 subst ei
 have r9:=run9 r
 rw [ybo] at r9
 have hlen:=r.len
 rw [ybo] at hlen
 refine ⟨fun hd=>?_,fun hd=>?_⟩
 ·have hd:(k:Int)<(x.2.length:Int):=of_decide_eq_true hd
  have hkl:k<x.2.length:=by omega
  simp only [ydx]
  have hsn:=zbo x.2 0 hkl
  have hgo:=r.go (x.2.drop k)
  rw [ydQ,ybo,show min k x.2.length=k by omega,List.drop_eq_getElem_cons hkl,show x.2[k]=x.2.getD k 0 by simp [ydd,hkl],timesGo] at hgo
  refine ⟨⟨by omega,hd⟩,⟨r.R.ok,trivial,trivial⟩,fun he=>?_,fun he=>?_⟩
  ·have he:(!((nextV s (x.2.getD k 0)).2.1==0))=true:=he
   rw [he,cond_true] at hgo
   show ([],(k:Int),(nextV s (x.2.getD k 0)).2.1)=timesV x.1 x.2
   rw [timesV,h',cond_false,hgo]
   show _=cond (!((nextV s (x.2.getD k 0)).2.1==0)) _ _
   rw [he];rfl
  ·have he:(!((nextV s (x.2.getD k 0)).2.1==0))=false:=he
   have N:=next_is (s:=s) (b:=x.2.getD k 0) (eq_of_beq (not_iff.2.1 he))
   have r':=ziK r N
   rw [<-hsn] at r'
   have r9':=run9 r'
   rw [ybo] at r9'
   refine ⟨?_,by simp only [Z.in64];omega,⟨k+1,rfl,hkl,?_⟩,?_⟩
   ·simp only [Z.roomy,yao,ybW,ydR]
    simp;omega
   ·show RunIs x.1 (x.2.take (k+1)) (ts++[(nextV s (x.2.getD k 0)).1]) (nextV s (x.2.getD k 0)).2.2
    rw [N.eq];exact r'
   ·show ((x.2.length:Int) - ((k:Int)+1)).toNat<((x.2.length:Int) - (k:Int)).toNat
    omega
 ·have hd:¬ (k:Int)<(x.2.length:Int):=of_decide_eq_false hd
  have hk':k=x.2.length:=by omega
  subst hk'
  have hgo:=r.go []
  rw [List.take_of_length_le (Nat.le_refl _),ydv,timesGo] at hgo
  refine ⟨⟨P.n.2,hp.2⟩,fun hc=>?_,fun hc=>?_⟩
  ·have hc:decide ((x.2.length:Int)<coatsN x.1.2.2)=true:=hc
   show ([],(x.2.length:Int),4)=timesV x.1 x.2
   rw [timesV,h',cond_false,hgo]
   show _=cond (decide ((x.2.length:Int)<coatsN x.1.2.2)) _ _
   rw [hc];rfl
  ·have hc:decide ((x.2.length:Int)<coatsN x.1.2.2)=false:=hc
   show (ts,(x.2.length:Int),0)=timesV x.1 x.2
   rw [timesV,h',cond_false,hgo]
   show _=cond (decide ((x.2.length:Int)<coatsN x.1.2.2)) _ _
   rw [hc];rfl
theorem go_run {p:Paint}:∀ {rest l ts:List Int} {s:Shop},RunIs p l ts s->(timesGo s rest ts (l.length:Int)).2.2.1=0->∃ s',RunIs p (l++rest) (timesGo s rest ts (l.length:Int)).1 s'
 | [],l,ts,s,r,_=>⟨s,by rw [ydv];exact r⟩
 | b::rest,l,ts,s,r,h=>by
  rw [timesGo] at h ⊢
  cases he:(nextV s b).2.1==0 with
  | false =>
   rw [he] at h
   have h:(nextV s b).2.1=0:=h
   rw [h] at he;cases he
  | true =>
   have N:=next_is (s:=s) (b:=b) (eq_of_beq he)
   rw [he] at h
   rw [N.eq] at h ⊢
   have e:((l.length:Int)+1)=((l++[b]).length:Int):=by rw [yao];simp
   obtain ⟨s',hs⟩:=go_run (rest:=rest) (ziK r N) (by rw [<-e];exact h)
   rw [yaz,<-e] at hs
   exact ⟨s',hs⟩
theorem zmI {p:Paint} {l:List Int} (h:(timesV p l).2.2=0):∃ s,RunIs p l (timesV p l).1 s:=by
 cases hv:paintB p with
 | false=>rw [timesV,hv] at h;cases h
 | true =>
  rw [timesV,hv] at h ⊢
  simp only [Bool.not_true,cond_false] at h ⊢
  by_cases he:(timesGo (shop0 p) l [] 0).2.2.1=0
  ·have he':(!((timesGo (shop0 p) l [] 0).2.2.1==0))=false:=by rw [he];rfl
   rw [he',cond_false] at h ⊢
   cases hc:decide ((l.length:Int)<coatsN p.2.2) with
   | true=>rw [hc] at h;cases h
   | false =>
    rw [cond_false]
    obtain ⟨s,hs⟩:=go_run (rest:=l) (run_nil hv) he
    exact ⟨s,hs⟩
  ·have he':(!((timesGo (shop0 p) l [] 0).2.2.1==0))=true:=by rw [beq_eq_false_iff_ne.2 he];rfl
   rw [he',cond_true] at h
   exact (he h).elim
theorem zjH {p:Paint} {l ts:List Int} {s:Shop} (r:RunIs p l ts s) (hl:coatsN p.2.2<=(l.length:Int)):timesV p l=(ts,(l.length:Int),0):=by
 have hgo:=r.go []
 rw [ydv,timesGo] at hgo
 have hv:=r.R.ok.paint
 rw [r.pp] at hv
 rw [timesV,hv,hgo]
 show cond (decide ((l.length:Int)<coatsN p.2.2)) _ _=_
 rw [decide_eq_false (by omega)];rfl
theorem zol (l:List Int) (i:Nat) (n:Nat):cntL (l.take n) i<=cntL l i:=by
 simp only [cntL]
 have:(l.take n++l.drop n).countP (fun b=>b==((i:Nat):Int))=l.countP fun b=>b==((i:Nat):Int):=by rw [ydQ]
 rw [ydP] at this
 omega
theorem cnt_nn (l:List Int) (i:Nat):0<=cntL l i:=Int.natCast_nonneg _
structure WetIs (p:Paint) (l:List Int) (n:Nat) (w:Shop):Prop where
 ok:ShopOk w
 pp:w.1=p
 many:∀ i,i<4->(hadN w i).1<=cntL (l.take n) i
theorem zkX {p:Paint} {l ts:List Int} {s w:Shop} (r:RunIs p l ts s) {n:Nat} (hn:n<l.length) (W:WetIs p l n w) :
  (0<=l.getD n 0/\l.getD n 0<(w.1.2.2.length:Int))/\(hadN w (l.getD n 0).toNat).1<((dryN w.1 (l.getD n 0).toNat).length:Int)/\(0<=ts.getD n 0/\ts.getD n 0<=18000):=by
 have hb:=r.rng _ (zbS l 0 n hn)
 have P:=r.R.ok.is
 rw [r.pp] at P
 have hx:(l.getD n 0).toNat<4:=by have:=P.n;omega
 have h1:=W.many _ hx
 have h2:=r.cnt _ hx
 have h3:=(r.R.ok.many _ hx).2
 rw [r.pp] at h3
 have h4:=zol l (l.getD n 0).toNat (n+1)
 rw [zbo l 0 hn,zgM,show (((l.getD n 0).toNat:Nat):Int)=l.getD n 0 by omega,beq_self_eq_true,cond_true] at h4
 refine ⟨by rw [W.pp];exact hb,by rw [W.pp];omega,r.tb _ (zbS ts 0 n (by rw [<-r.len];exact hn))⟩
theorem wet_dip {p:Paint} {l ts:List Int} {s w:Shop} (r:RunIs p l ts s) {n:Nat} (hn:n<l.length) (W:WetIs p l n w):WetIs p l (n+1) (dipV w (l.getD n 0,ts.getD n 0)):=by
 obtain ⟨h1,h2,h3⟩:=zkX r hn W
 have P:=r.R.ok.is
 rw [r.pp] at P
 have hx:(l.getD n 0).toNat<4:=by have:=P.n;rw [W.pp] at h1;omega
 refine ⟨W.ok.dip h1 h2 ⟨h3.1,by omega⟩,W.pp,fun i hi=>?_⟩
 rw [zbo l 0 hn,zgM]
 have:=W.many i hi
 by_cases hi':i=(l.getD n 0).toNat
 ·subst hi'
  rw [had_eq (x:=(l.getD n 0,ts.getD n 0)) W.ok.h4 hx,show (((l.getD n 0).toNat:Nat):Int)=l.getD n 0 by omega,beq_self_eq_true,cond_true]
  show (hadN w (l.getD n 0).toNat).1+1<=_
  omega
 ·rw [had_ne (x:=(l.getD n 0,ts.getD n 0)) hi',show (l.getD n 0==((i:Nat):Int))=false from beq_eq_false_iff_ne.2 (by omega),cond_false]
  omega
theorem znF {p:Paint} {l:List Int} {w:Shop} {n:Nat} (hn:n<l.length) (W:WetIs p l n w):WetIs p l (n+1) w:=by
 refine ⟨W.ok,W.pp,fun i hi=>?_⟩
 have:=W.many i hi
 rw [zbo l 0 hn,zgM]
 cases l.getD n 0==((i:Nat):Int) with
 | true=>rw [cond_true];omega
 | false=>rw [cond_false];omega
theorem zep (s:Shop) (hour:Int) (f:Hung->Int) (n:Nat):wetN s hour f (n+1)=wetN s hour f n+cond (decide (0<(hadN s n).1)&&decide (hour<f (hadN s n))) 1 0:=by
 rw [wetN,ydL,List.map_append,List.sum_append];simp [wetN]
theorem wetN_le (s:Shop) (hour:Int) (f:Hung->Int):∀ n:Nat,0<=wetN s hour f n/\wetN s hour f n<=(n:Int)
 | 0=>by show (0:Int)<=0/\(0:Int)<=0;omega
 | n+1=>by
  have:=wetN_le s hour f n
  rw [zep]
  cases decide (0<(hadN s n).1)&&decide (hour<f (hadN s n)) with
  | true=>rw [cond_true];omega
  | false=>rw [cond_false];omega
theorem v47 (x:Paint × (List Int) × Int) (hp:k47.pre x):V47 x:=by
 obtain ⟨hp,hl⟩:PaintP x.1/\x.2.1.length<=big:=hp
 have hl':x.2.1.length<=1000000:=hl
 refine ⟨⟨hp,hl⟩,fun h=>?_,fun h=>⟨trivial,fun h2=>?_,fun h2=>?_⟩⟩
 ·show ((0,0),(timesV x.1 x.2.1).2.2)=wetV x.1 x.2.1 x.2.2
  rw [wetV,show (!((timesV x.1 x.2.1).2.2==0))=true from h];rfl
 ·show ((0,0),2)=wetV x.1 x.2.1 x.2.2
  rw [wetV,show (!((timesV x.1 x.2.1).2.2==0))=false from h,show (!inB x.2.2 0 1048576)=true from h2];rfl
 have h:(!((timesV x.1 x.2.1).2.2==0))=false:=h
 have h2:(!inB x.2.2 0 1048576)=false:=h2
 obtain ⟨s,r⟩:=zmI (p:=x.1) (l:=x.2.1) (eq_of_beq (not_iff.2.1 h))
 have P:=r.R.ok.is
 rw [r.pp] at P
 have hd:=P.dip
 have hv:=r.R.ok.paint
 rw [r.pp] at hv
 have hval:zbT x=((wetN (wetGo x.2.2 (timesV x.1 x.2.1).1 x.2.1 (shop0 x.1) x.2.1.length) x.2.2 (fun h=>h.2.2.1) 4,wetN (wetGo x.2.2 (timesV x.1 x.2.1).1 x.2.1 (shop0 x.1) x.2.1.length) x.2.2 (fun h=>h.2.2.2) 4),0):=by
  show wetV x.1 x.2.1 x.2.2=_
  rw [wetV,h,h2];rfl
 have r0:=run_nil hv
 refine ⟨fun a=>∃ n:Nat,a.1=(n:Int)/\n<=x.2.1.length/\a.2=wetGo x.2.2 (timesV x.1 x.2.1).1 x.2.1 (shop0 x.1) n/\WetIs x.1 x.2.1 n a.2,fun a=>((x.2.1.length:Int) - a.1).toNat,⟨0,rfl,by omega,rfl,r0.R.ok,rfl,fun i hi=>?_⟩,?_⟩
 ·show (hadN (shop0 x.1) i).1<=_
  rw [had0 _ hi];exact cnt_nn _ _
 rintro ⟨n',w⟩ ⟨n,en,hn,ew,W⟩
 simp only at en ew W
 subst en
 refine ⟨fun hd=>?_,fun hd=>?_⟩
 ·have hd:(n:Int)<(x.2.1.length:Int):=of_decide_eq_true hd
  have hnl:n<x.2.1.length:=by omega
  have hlen:=r.len
  obtain ⟨g1,g2,g3⟩:=zkX r hnl W
  simp only [ydx]
  have hr:(0:Int)<=(n:Int)/\(n:Int)<((timesV x.1 x.2.1).1.length:Int):=by omega
  refine ⟨⟨by omega,hd⟩,hr,?_,fun hc=>⟨hr,⟨⟨W.ok,g1,g2,by show 0<=(timesV x.1 x.2.1).1.getD n 0;omega,by show (timesV x.1 x.2.1).1.getD n 0<=1000000;omega⟩,trivial,trivial⟩,by simp only [Z.in64];omega,by first | rfl | trivial,⟨n+1,rfl,hnl,?_,wet_dip r hnl W⟩,?_⟩,fun hc=>⟨by simp only [Z.in64];omega,by first | rfl | trivial,⟨n+1,rfl,hnl,?_,znF hnl W⟩,?_⟩⟩
  ·show Z.in64 ((timesV x.1 x.2.1).1.getD n 0+x.1.1)
   simp only [Z.in64];omega
  ·have hc:decide ((timesV x.1 x.2.1).1.getD n 0+(shop0 x.1).1.1<=x.2.2)=true:=hc
   rw [wetGo,hc,cond_true,<-ew];rfl
  ·show ((x.2.1.length:Int) - ((n:Int)+1)).toNat<((x.2.1.length:Int) - (n:Int)).toNat
   omega
  ·have hc:decide ((timesV x.1 x.2.1).1.getD n 0+(shop0 x.1).1.1<=x.2.2)=false:=hc
   rw [wetGo,hc,cond_false,<-ew]
  ·show ((x.2.1.length:Int) - ((n:Int)+1)).toNat<((x.2.1.length:Int) - (n:Int)).toNat
   omega
 have hd:¬ (n:Int)<(x.2.1.length:Int):=of_decide_eq_false hd
 have:n=x.2.1.length:=by omega
 subst this
 rw [<-ew] at hval
 refine ⟨fun a=>∃ m:Nat,a.1=(m:Int)/\m<=4/\a.2.1=wetN w x.2.2 (fun h=>h.2.2.1) m/\a.2.2=wetN w x.2.2 (fun h=>h.2.2.2) m,fun a=>(4 - a.1).toNat,⟨0,rfl,by omega,rfl,rfl⟩,?_⟩
 rintro ⟨m',a,b⟩ ⟨m,em,hm,ea,eb⟩
 simp only at em ea eb
 subst em
 refine ⟨fun hd=>?_,fun hd=>?_⟩
 ·have hd:(m:Int)<4:=of_decide_eq_true hd
  have b1:=wetN_le w x.2.2 (fun h=>h.2.2.1) m
  have b2:=wetN_le w x.2.2 (fun h=>h.2.2.2) m
  have s1:=zep w x.2.2 (fun h=>h.2.2.1) m
  have s2:=zep w x.2.2 (fun h=>h.2.2.2) m
  rw [<-ea] at b1 s1
  rw [<-eb] at b2 s2
  have hi:Z.in64 ((m:Int)+1):=by simp only [Z.in64];omega
  have ha:Z.in64 (a+1):=by simp only [Z.in64];omega
  have hb:Z.in64 (b+1):=by simp only [Z.in64];omega
  have hmeas:(4 - ((m:Int)+1)).toNat<(4 - (m:Int)).toNat:=by omega
  have fin:∀ a' b':Int,a'=wetN w x.2.2 (fun h=>h.2.2.1) (m+1)->b'=wetN w x.2.2 (fun h=>h.2.2.2) (m+1)->(∃ k:Nat,(m:Int)+1=(k:Int)/\k<=4/\a'=wetN w x.2.2 (fun h=>h.2.2.1) k/\b'=wetN w x.2.2 (fun h=>h.2.2.2) k):=fun a' b' h1 h2=>⟨m+1,rfl,by omega,h1,h2⟩
  refine ⟨⟨by omega,hd⟩,fun c1=>⟨ha,fun c2=>⟨hb,hi,by first | rfl | trivial,fin _ _ ?_ ?_,hmeas⟩,fun c2=>⟨hi,by first | rfl | trivial,fin _ _ ?_ ?_,hmeas⟩⟩,fun c1=>⟨fun c2=>⟨hb,hi,by first | rfl | trivial,fin _ _ ?_ ?_,hmeas⟩,fun c2=>⟨hi,by first | rfl | trivial,fin _ _ ?_ ?_,hmeas⟩⟩⟩
  all_goals
   first
   | rw [s1,show (decide (0<(hadN w m).1)&&decide (x.2.2<(hadN w m).2.2.1))=true from c1,cond_true]
   | rw [s1,show (decide (0<(hadN w m).1)&&decide (x.2.2<(hadN w m).2.2.1))=false from c1,cond_false,ydS]
   | rw [s2,show (decide (0<(hadN w m).1)&&decide (x.2.2<(hadN w m).2.2.2))=true from c2,cond_true]
   | rw [s2,show (decide (0<(hadN w m).1)&&decide (x.2.2<(hadN w m).2.2.2))=false from c2,cond_false,ydS]
 ·have hd:¬ (m:Int)<4:=of_decide_eq_false hd
  have:m=4:=by omega
  subst this
  rw [hval,<-ea,<-eb]
end Go.Tt
/-
 Coat: the best order.
-/
namespace Go.Tt
open Go Go.Sx
theorem zny {p:Paint} (P:PaintIs p):1<=coatsN p.2.2:=by
 have hn:=P.n
 obtain ⟨b,l,e⟩:∃ b l,p.2.2=b::l:=by
  cases e:p.2.2 with
  | nil=>rw [e] at hn;simp at hn
  | cons b l=>exact ⟨b,l,rfl⟩
 have h1:=(P.batch b (by rw [e];exact List.mem_cons_self)).1
 have h2:=zgL l
 have:coatsN p.2.2=(b.1.length:Int)+coatsN l:=by rw [e];simp [coatsN]
 omega
theorem more_eq (l:List Int) (b:Int):moreL l b=l++[b]:=by
 have e1:yby ((l.length:Int)+1)=l.length+1:=by omega
 simp only [moreL,e1,ydx]
 rw [show (yaa (l.length+1) (0:Int)).drop l.length=[0] by simp]
 rw [List.set_append_right (h:=by omega),Nat.sub_self]
 rfl
def bestF (many:Int) (p:Paint) (n:Nat) (s:Shop) (l:List Int) (o:BestS) (i:Nat):BestS :=
 cond (!((nextV s (i:Nat)).2.1==0)||(!((o.1.length:Int)==0)&&decide (o.2<=doneV (nextV s (i:Nat)).2.2))) o (bestGo many p n (nextV s (i:Nat)).2.2 (l++[((i:Nat):Int)]) o)
theorem best_eq (many:Int) (p:Paint) (n:Nat) (s:Shop) (l:List Int) (o:BestS) (h:((l.length:Int)==many)=true):bestGo many p n s l o=cond ((o.1.length:Int)==0||decide (doneV s<o.2)) (l,doneV s) o:=by
 cases n<;>rw [bestGo,h,cond_true]
theorem best_on (many:Int) (p:Paint) (n:Nat) (s:Shop) (l:List Int) (o:BestS) (h:((l.length:Int)==many)=false):bestGo many p (n+1) s l o=(yaf p.2.2.length).foldl (bestF many p n s l) o:=by
 rw [bestGo,h,cond_false];rfl
theorem v114 (x:BestIn) (hp:k114.pre x):V114 x:=by
 obtain ⟨R,hpp,hmany,hl⟩:ShopR x.1/\x.1.1=x.2.2.2.2.2/\(x.2.2.1=coatsN x.2.2.2.2.2.2.2/\(x.2.1.length:Int)=manyN x.1):=hp
 have S:=R.ok
 have P:=S.is
 have hc1:=zny P
 have h9:=S.many9
 rw [hpp] at hc1 h9 P
 have hn:=P.n
 obtain ⟨s,l,many,ol,oh,p⟩:=x
 simp only at R hpp hmany hl hc1 h9 P hn S
 refine ⟨fun h=>?_,fun h=>?_⟩
 ·have h:((l.length:Int)==many)=true:=h
  have e:zbj (s,l,many,ol,oh,p)=cond ((ol.length:Int)==0||decide (doneV s<oh)) (l,doneV s) (ol,oh):=best_eq many p _ s l (ol,oh) h
  have hml:(l.length:Int)=many:=eq_of_beq h
  refine ⟨S,trivial,trivial,trivial,trivial,trivial,trivial,fun hc=>⟨by show l.length<=1000;omega,fun hh=>?_,by first | rfl | trivial,trivial,trivial,by first | rfl | trivial,trivial,?_⟩,fun hc=>⟨by first | rfl | trivial,trivial,trivial,by first | rfl | trivial,trivial,?_⟩⟩
  ·have hh:l=[]:=hh
   rw [hh] at hml
   simp at hml
   omega
  ·rw [e,show ((ol.length:Int)==0||decide (doneV s<oh))=true from hc];rfl
  ·rw [e,show ((ol.length:Int)==0||decide (doneV s<oh))=false from hc];rfl
 ·have h:((l.length:Int)==many)=false:=h
  have hne:(l.length:Int)≠many:=beq_eq_false_iff_ne.1 h
  obtain ⟨n,en⟩:∃ n,(many - (l.length:Int)).toNat=n+1:=⟨(many - (l.length:Int)).toNat - 1,by omega⟩
  have e:zbj (s,l,many,ol,oh,p)=(yaf p.2.2.length).foldl (bestF many p n s l) (ol,oh):=by
   show bestGo many p (many - (l.length:Int)).toNat s l (ol,oh)=_
   rw [en];exact best_on many p n s l (ol,oh) h
  refine ⟨fun a=>∃ i:Nat,a.1=(i:Int)/\i<=p.2.2.length/\a.2=(yaf i).foldl (bestF many p n s l) (ol,oh),fun a=>((p.2.2.length:Int) - a.1).toNat,⟨0,rfl,by omega,rfl⟩,?_⟩
  rintro ⟨i',o⟩ ⟨i,ei,hi,eo⟩
  simp only at ei eo
  subst ei
  refine ⟨fun hd=>?_,fun hd=>⟨by first | rfl | trivial,trivial,trivial,by first | rfl | trivial,trivial,?_⟩⟩
  ·have hd:(i:Int)<(p.2.2.length:Int):=of_decide_eq_true hd
   have hf:(yaf (i+1)).foldl (bestF many p n s l) (ol,oh)=bestF many p n s l o i:=by
    rw [ydL,ydJ,<-eo];rfl
   have hm:((p.2.2.length:Int) - ((i:Int)+1)).toNat<((p.2.2.length:Int) - (i:Int)).toNat:=by omega
   refine ⟨⟨S,trivial,trivial⟩,fun hh=>?_,fun hc=>⟨by simp only [Z.in64];omega,⟨by first | rfl | trivial,trivial,trivial,by first | rfl | trivial,trivial,trivial⟩,⟨i+1,rfl,by omega,?_⟩,hm⟩,fun hc=>?_⟩
   ·have N:=next_is (s:=s) (b:=(i:Int)) (eq_of_beq (not_iff.2.1 hh.2))
    show ShopOk (nextV s (i:Int)).2.2
    rw [N.eq];exact (R.next N).1.ok
   ·rw [hf,bestF,show (!((nextV s (i:Nat)).2.1==0)||(!((o.1.length:Int)==0)&&decide (o.2<=doneV (nextV s (i:Nat)).2.2)))=true from hc];rfl
   ·have hc':(!((nextV s (i:Nat)).2.1==0)||(!((o.1.length:Int)==0)&&decide (o.2<=doneV (nextV s (i:Nat)).2.2)))=false:=hc
    have N:=next_is (s:=s) (b:=(i:Int)) (eq_of_beq (not_iff.2.1 (ydK.1 hc').1))
    have RN:=R.next N
    have hlen:((l++[((i:Nat):Int)]).length:Int)=(l.length:Int)+1:=by rw [yao];simp
    refine ⟨by simp only [Z.in64];omega,⟨⟨by omega,by omega⟩,?_⟩,decide_eq_true ?_,⟨by omega,?_⟩,⟨⟨?_,?_⟩,⟨by first | rfl | trivial,trivial,trivial,by first | rfl | trivial,trivial,trivial⟩,trivial⟩,by simp only [Z.in64];omega,⟨by first | rfl | trivial,trivial,trivial,by first | rfl | trivial,trivial,trivial⟩,⟨i+1,rfl,by omega,?_⟩,hm⟩
    ·simp only [Z.roomy];simp;omega
    ·rw [ydR];omega
    ·have e1:yby ((l.length:Int)+1)=l.length+1:=by omega
     show (l.length:Int)<((l++(yaa (yby ((l.length:Int)+1)) (0:Int)).drop (yby (l.length:Int))).length:Int)
     rw [e1,ydx,show (yaa (l.length+1) (0:Int)).drop l.length=[0] by simp,yao]
     show (l.length:Int)<((l.length+1:Nat):Int)
     omega
    ·show ShopR (nextV s (i:Int)).2.2/\(nextV s (i:Int)).2.2.1=p/\(many=coatsN p.2.2/\((moreL l (i:Int)).length:Int)=manyN (nextV s (i:Int)).2.2)
     rw [N.eq,more_eq]
     exact ⟨RN.1,hpp,hmany,by rw [hlen];show _=manyN (dipV s _);rw [RN.2,hl]⟩
    ·show (many - ((moreL l (i:Int)).length:Int)).toNat<(many - (l.length:Int)).toNat
     rw [more_eq,hlen];omega
    ·rw [hf,bestF,hc',cond_false]
     show bestGo many p (many - ((moreL l (i:Int)).length:Int)).toNat (nextV s (i:Int)).2.2 (moreL l (i:Int)) o=_
     rw [more_eq,hlen,show (many - ((l.length:Int)+1)).toNat=n by omega]
  ·have hd:¬ (i:Int)<(p.2.2.length:Int):=of_decide_eq_false hd
   have:i=p.2.2.length:=by omega
   subst this
   rw [e,<-eo]
theorem v44 (x:Paint) (hp:k44.pre x):V44 x:=by
 have hp:PaintP x:=hp
 refine ⟨hp,fun h=>?_,fun h=>?_⟩
 ·show ([],0,1)=bestV x
  rw [bestV,show (!paintB x)=true from h];rfl
 have h:(!paintB x)=false:=h
 have hv:paintB x=true:=not_iff.2.1 h
 have P:=zdW.1 hv
 have r0:=run_nil hv
 refine ⟨⟨P.n.2,hp.2⟩,⟨⟨r0.R,rfl,rfl,rfl⟩,⟨by first | rfl | trivial,trivial,trivial,by first | rfl | trivial,trivial,trivial⟩,trivial⟩,trivial,fun hc=>?_,fun hc=>?_⟩
 ·show ([],0,4)=bestV x
  have hc:(((bestGo (coatsN x.2.2) x (coatsN x.2.2 - 0).toNat (shop0 x) [] ([],0)).1.length:Int)==0)=true:=hc
  rw [ydT] at hc
  rw [bestV,h,cond_false,hc];rfl
 ·have hc:(((bestGo (coatsN x.2.2) x (coatsN x.2.2 - 0).toNat (shop0 x) [] ([],0)).1.length:Int)==0)=false:=hc
  show ((bestGo (coatsN x.2.2) x (coatsN x.2.2 - 0).toNat (shop0 x) [] ([],0)).1,(bestGo (coatsN x.2.2) x (coatsN x.2.2 - 0).toNat (shop0 x) [] ([],0)).2,0)=bestV x
  rw [ydT] at hc ⊢
  rw [bestV,h,cond_false,hc];rfl
def GoodO (many:Int) (p:Paint) (o:BestS):Prop:=(o.1=[]\/∃ ts s,RunIs p o.1 ts s/\o.2=doneV s/\(o.1.length:Int)=many)
theorem zks {many:Int} {p:Paint}:∀ (n:Nat) {s:Shop} {l ts:List Int} {o:BestS},RunIs p l ts s->GoodO many p o->GoodO many p (bestGo many p n s l o)
 | n,s,l,ts,o,r,g=>by
  cases h:(l.length:Int)==many with
  | true =>
   rw [best_eq many p n s l o h]
   cases (o.1.length:Int)==0||decide (doneV s<o.2) with
   | false=>exact g
   | true=>exact .inr ⟨ts,s,r,rfl,eq_of_beq h⟩
  | false =>
   cases n with
   | zero=>rw [bestGo,h];exact g
   | succ n =>
    rw [best_on many p n s l o h]
    have key:∀ (k:Nat),GoodO many p ((yaf k).foldl (bestF many p n s l) o):=by
     intro k
     induction k with
     | zero=>exact g
     | succ k ih =>
      rw [ydL,ydJ]
      show GoodO many p (bestF many p n s l _ k)
      generalize (yaf k).foldl (bestF many p n s l) o=o' at ih
      rw [bestF]
      cases hc:(!((nextV s (k:Nat)).2.1==0)||(!((o'.1.length:Int)==0)&&decide (o'.2<=doneV (nextV s (k:Nat)).2.2))) with
      | true=>exact ih
      | false =>
       have N:=next_is (s:=s) (b:=(k:Int)) (eq_of_beq (not_iff.2.1 (ydK.1 hc).1))
       rw [cond_false,N.eq]
       exact zks n (ziK r N) ih
    exact key _
theorem zon {p:Paint} (h:(bestV p).2.2=0):∃ ts s,RunIs p (bestV p).1 ts s/\(bestV p).2.1=doneV s/\((bestV p).1.length:Int)=coatsN p.2.2:=by
 cases hv:paintB p with
 | false=>rw [bestV,hv] at h;cases h
 | true =>
  have G:=zks (many:=coatsN p.2.2) (coatsN p.2.2).toNat (run_nil hv) (o:=([],0)) (.inl rfl)
  rw [bestV,hv] at h ⊢
  cases hc:((bestGo (coatsN p.2.2) p (coatsN p.2.2).toNat (shop0 p) [] ([],0)).1.length:Int)==0 with
  | true=>rw [hc] at h;cases h
  | false =>
   rcases G with G | ⟨ts,s,g1,g2,g3⟩
   ·rw [G] at hc;cases hc
   ·exact ⟨ts,s,g1,g2,g3⟩
theorem znB {p:Paint} (hv:paintB p=true) (h:(bestV p).2.2≠0):(bestV p).1=[]/\(bestV p).2.2=4:=by
 rw [bestV,hv] at h ⊢
 cases hc:((bestGo (coatsN p.2.2) p (coatsN p.2.2).toNat (shop0 p) [] ([],0)).1.length:Int)==0 with
 | true=>exact ⟨rfl,rfl⟩
 | false=>rw [hc] at h;exact (h rfl).elim
theorem v43 (x:Unit) (hp:k43.pre x):V43 x:=by
 refine ⟨⟨by decide,fun b hb=>?_⟩,trivial,?_,?_⟩
 ·rcases yaq.1 hb with rfl | hb
  ·decide
  ·rcases yaq.1 hb with rfl | hb
   ·decide
   ·cases hb
 ·have:(zca (2,1,(((yaa 2 ([],0)).set 0 ((((yaa 2 (0,0)).set 0 (4,6)).set 1 (3,5)),10)).set 1 (((yaa 1 (0,0)).set 0 (5,8)),10)))).1.length=3:=by kernel_rfl
  show (zca _).1.length<=big
  rw [this];decide
 ·kernel_rfl
end Go.Tt
