/-
  Chapter 10: the condition of Share, proved.
-/
import Derived.Test.YtdhdklojcppfcaaTtOP6
set_option linter.all false
set_option maxRecDepth 100000
set_option maxHeartbeats 4000000
set_option linter.unusedVariables false
open Int renaming eq_ofNat_of_zero_le->ydF,le_of_lt->yaT,le_refl->ydz,pow_pos->yaR,tdiv->ydu,toNat->yby,toNat_natCast->ydw
open List renaming append_assoc->yaz,drop_of_length_le->ydO,getD->yda,length_append->yao,length_map->ycK,length_range->ydP,length_set->ybV,length_take->ybo,range->yaf,replicate->yaa,take_of_length_le->ydM
namespace Go.Tt
open Go Go.Sx
theorem rm1 {n:Int} (hn:n<=100):Z.roomy 1 n:=zkq (by decide) (by decide) (by omega)
theorem znY (m:Market) (i k:Nat):lessV m (i:Nat) (k:Nat) 0=m:=by
 have key:∀ (l:List Int) (j:Nat),l.set j (l.getD j 0 - 0)=l:=by
  intro l j
  rw [Int.sub_zero]
  by_cases h:j<l.length
  ·have:l.getD j 0=l[j]:=by simp [yda,h]
   rw [this,List.set_getElem_self]
  ·rw [List.set_eq_of_length_le (by omega)]
 simp only [lessV,ydw,key]
theorem v38 (x:Sale) (_:k38.pre x):V38 x:=by
 refine ⟨trivial,fun h=>?_,fun h=>?_⟩
 ·have h:saleB x=false:=by simpa using (show (!saleB x)=true from h)
  show _=zau x
  rw [zau,h];rfl
 have h:saleB x=true:=by simpa using (show (!saleB x)=false from h)
 have S:=zdQ.1 h
 have W:=zhF h
 have eS:zau x=(shareV (worstM x),0):=by rw [zau,h];rfl
 obtain ⟨sup,ord⟩:=x
 have hs8:(sup.length:Int)<=8:=by have:=S.s8;simp only at this;omega
 have ho8:(ord.length:Int)<=8:=by have:=S.o8;simp only at this;omega
 refine ⟨trivial,trivial,trivial,trivial,trivial,fun s=>0<=s.1/\s.1<=(ord.length:Int)/\s.2.1=([],[],[])/\s.2.2=(ord.take s.1.toNat).map (fun o=>o.2.1),fun s=>((ord.length:Int) - s.1).toNat,⟨by simp,by simp,rfl,rfl⟩,?_⟩
 rintro ⟨i,c,l⟩ ⟨i1,i2,e1,e2⟩
 simp only at i1 i2 e1 e2 ⊢
 subst e1;subst e2
 have hlen:((ord.take i.toNat).map (fun o:Order=>o.2.1)).length<=8:=by rw [ycK,ybo];omega
 refine ⟨fun hi=>?_,fun hi=>?_⟩
 ·have hi:=of_decide_eq_true hi
  refine ⟨⟨i1,hi⟩,rm1 (by rw [yao];simp;omega),by simp only [Z.in64];omega,trivial,trivial,trivial,⟨by show 0<=i+1;omega,by show i+1<=_;omega,rfl,(zcF (fun o:Order=>o.2.1) ord (0,0,0,0) i i1 hi).symm⟩,?_⟩
  show ((ord.length:Int) - (i+1)).toNat<((ord.length:Int) - i).toNat
  omega
 have hi:=of_decide_eq_false hi
 have hfull:ord.take i.toNat=ord:=ydM (by omega)
 rw [hfull]
 refine ⟨fun s=>0<=s.1/\s.1<=(sup.length:Int)/\s.2.1=([],[],[])/\s.2.2.1=(sup.take s.1.toNat).map worstMany/\s.2.2.2=(sup.take s.1.toNat).map (fun y=>setOf (ord.map (canB y.1 (worstReady y)))),fun s=>((sup.length:Int) - s.1).toNat,⟨by simp,by simp,rfl,rfl,rfl⟩,?_⟩
 rintro ⟨j,c,l,r⟩ ⟨j1,j2,e1,e2,e3⟩
 simp only at j1 j2 e1 e2 e3 ⊢
 subst e1;subst e2;subst e3
 have hl1:((sup.take j.toNat).map worstMany).length<=8:=by rw [ycK,ybo];omega
 have hl2:((sup.take j.toNat).map (fun y=>setOf (ord.map (canB y.1 (worstReady y))))).length<=8:=by rw [ycK,ybo];omega
 refine ⟨fun hj=>?_,fun hj=>?_⟩
 ·have hj:=of_decide_eq_true hj
  obtain ⟨y,hy⟩:∃ y,y=sup.getD j.toNat (0,(0,0),0,0):=⟨_,rfl⟩
  have hym:y∈sup:=by rw [hy];exact zbx sup _ j j1 hj
  have hyo:=zek.1 (S.sup y hym)
  rw [<-hy]
  refine ⟨⟨j1,hj⟩,fun s=>0<=s.2/\s.2<=(ord.length:Int)/\s.1=setOf ((ord.take s.2.toNat).map (canB y.1 (worstReady y))),fun s=>((ord.length:Int) - s.2).toNat,⟨by simp,by simp,rfl⟩,?_⟩
  rintro ⟨a,k⟩ ⟨k1,k2,k3⟩
  simp only at k1 k2 k3 ⊢
  have klen:((ord.take k.toNat).map (canB y.1 (worstReady y))).length<=8:=by rw [ycK,ybo];omega
  refine ⟨fun hk=>?_,fun hk=>?_⟩
  ·have hk:=of_decide_eq_true hk
   obtain ⟨o,ho⟩:∃ o,o=ord.getD k.toNat (0,0,0,0):=⟨_,rfl⟩
   have hom:o∈ord:=by rw [ho];exact zbx ord _ k k1 hk
   have hoo:=zgi.1 (S.ord o hom)
   have et:=zcF (canB y.1 (worstReady y)) ord (0,0,0,0) k k1 hk
   rw [<-ho] at et ⊢
   refine ⟨⟨k1,hk⟩,⟨hoo.1.1,by have:=hoo.1.2;omega⟩,⟨?_,by decide⟩,fun _=>trivial,fun hb=>?_,fun hb=>?_⟩
   ·rw [Int.fdiv_eq_ediv_of_nonneg _ (yaT (yaR (by decide)))]
    exact Int.ediv_nonneg hyo.1.1 (yaT (yaR (by decide)))
   ·have hb:canB y.1 (worstReady y) o=true:=(can_bit y.1 (worstReady y) o hyo.1.1 hoo.1.1).symm.trans hb
    have ha:=zfH klen
    rw [<-k3] at ha
    refine ⟨shl_ok k1 (by omega),⟨ha.1,pow_nn k⟩,by simp only [Z.in64];omega,?_,?_,?_,?_,?_,?_,⟨by show 0<=k+1;omega,by show k+1<=_;omega,?_⟩,?_⟩
    all_goals first | trivial | rfl | skip
    ·show (((a.toNat ||| (1*2^k.toNat:Int).toNat:Nat):Int))=setOf ((ord.take (k+1).toNat).map (canB y.1 (worstReady y)))
     rw [et,hb,k3]
     have e1:(1*2^k.toNat:Int).toNat=2^k.toNat:=by rw [Int.one_mul,pow_int];exact ydw _
     have e2:((ord.take k.toNat).map (canB y.1 (worstReady y))).length=k.toNat:=by rw [ycK,ybo];omega
     rw [e1]
     simp only [setOf,ydw]
     rw [<-setN_or,e2]
    ·show ((ord.length:Int) - (k+1)).toNat<((ord.length:Int) - k).toNat
     omega
   ·have hb:canB y.1 (worstReady y) o=false:=(can_bit y.1 (worstReady y) o hyo.1.1 hoo.1.1).symm.trans hb
    refine ⟨by simp only [Z.in64];omega,?_,?_,?_,?_,?_,?_,⟨by show 0<=k+1;omega,by show k+1<=_;omega,?_⟩,?_⟩
    all_goals first | trivial | rfl | skip
    ·show a=setOf ((ord.take (k+1).toNat).map (canB y.1 (worstReady y)))
     rw [et,hb,k3]
     simp only [setOf]
     rw [zhM]
     simp [bitN]
    ·show ((ord.length:Int) - (k+1)).toNat<((ord.length:Int) - k).toNat
     omega
  ·have hk:=of_decide_eq_false hk
   have kfull:ord.take k.toNat=ord:=ydM (by omega)
   rw [kfull] at k3
   have e1:=zcF worstMany sup (0,(0,0),0,0) j j1 hj
   have e2:=zcF (fun y=>setOf (ord.map (canB y.1 (worstReady y)))) sup (0,(0,0),0,0) j j1 hj
   rw [<-hy] at e1 e2
   refine ⟨trivial,rm1 (by rw [yao];simp;omega),rm1 (by rw [yao];simp;omega),by simp only [Z.in64];omega,?_,?_,⟨by show 0<=j+1;omega,by show j+1<=_;omega,trivial,e1.symm,?_⟩,?_⟩
   all_goals first | trivial | rfl | skip
   ·show _++[a]=_
    rw [e2,k3]
   ·show ((sup.length:Int) - (j+1)).toNat<((sup.length:Int) - j).toNat
    omega
 have hj:=of_decide_eq_false hj
 have jfull:sup.take j.toNat=sup:=ydM (by omega)
 rw [jfull]
 have hNl:(ord.map fun o:Order=>o.2.1).length=ord.length:=ycK _
 have hMl:(sup.map worstMany).length=sup.length:=ycK _
 have hSl:(sup.map fun y:Supply=>setOf (ord.map (canB y.1 (worstReady y)))).length=sup.length:=ycK _
 refine ⟨trivial,trivial,trivial,trivial,fun s=>0<=s.2.1/\s.2.1<=(sup.length:Int)/\ShareOk (s.2.2.2.2.1,s.2.2.2.2.2,s.2.2.1.2.2) s.2.2.2.1.2.2.1/\(s.2.2.2.2.1.length=ord.length/\s.2.2.2.2.2.length=sup.length)/\(s.1.length:Int)=s.2.1/\s.1++shareI ord.length (ixs ((yaf sup.length).drop s.2.1.toNat)) (s.2.2.2.2.1,s.2.2.2.2.2,s.2.2.1.2.2) s.2.2.2.1.2.2.1=shareV (worstM (sup,ord)),fun s=>((sup.length:Int) - s.2.1).toNat,⟨by simp,by simp,⟨W,by simp,fun s hs=>?_⟩,⟨hNl,hMl⟩,by simp,?_⟩,?_⟩
 ·rw [(List.mem_replicate.1 hs).2];exact ⟨by decide,by decide⟩
 ·show shareI ord.length (idx sup.length) (worstM (sup,ord)) _=_
  rw [shareV]
  show _=shareI (worstM (sup,ord)).1.length (idx (worstM (sup,ord)).2.1.length) _ _
  rw [show (worstM (sup,ord)).1.length=ord.length from hNl,show (worstM (sup,ord)).2.1.length=sup.length from hMl]
 rintro ⟨out,i,mk,fl,asked,many⟩ ⟨i1,i2,hok,⟨hN,hM⟩,ho,hv⟩
 simp only at i1 i2 hok hN hM ho hv ⊢
 obtain ⟨i,rfl⟩:=ydF i1
 refine ⟨fun hi=>?_,fun hi=>?_⟩
 rotate_left
 ·have hi:=of_decide_eq_false hi
  rw [ydO (by rw [ydP];omega)] at hv
  rw [eS,<-hv]
  show (out,(0:Int))=(out++[],0)
  rw [List.append_nil]
 have hi:=of_decide_eq_true hi
 have hiM:i<sup.length:=by omega
 rw [ydw,zeq _ _ hiM,shareI] at hv
 have hSv:mk.2.2.length=sup.length:=by have:=hok.mo.len;simp only at this;omega
 have hout8:(out.length:Int)<=8:=by omega
 refine ⟨⟨⟨by omega,ydz _⟩,rm1 (by omega)⟩,trivial,trivial,trivial,rm1 (by rw [yao];simp;omega),trivial,⟨by omega,by omega⟩,fun hz=>⟨by simp only [Z.in64];omega,?_,?_,⟨⟨by omega,by omega,hok,⟨hN,hM⟩,?_,?_⟩,?_⟩⟩,fun hz=>?_⟩
 all_goals first | trivial | rfl | skip
 ·rw [yao];simp;omega
 ·have hz:mk.2.2.getD ((i:Nat):Int).toNat 0=0:=eq_of_beq hz
  rw [zik _ (asked,many,mk.2.2) _ hz] at hv
  have e:(((i:Nat):Int)+1).toNat=i+1:=by omega
  have e2:yby (ord.length:Int)=ord.length:=ydw _
  rw [e,e2,yaz]
  exact hv
 ·omega
 have hservi:smallSet (mk.2.2.getD i 0):=hok.mo.serves _ (zan mk.2.2 0 i (by omega))
 refine ⟨fun s=>0<=s.1/\s.1<=(ord.length:Int)/\ShareOk (s.2.2.2.1,s.2.2.2.2.1,s.2.1.2.2) s.2.2.1.2.2.1/\(s.2.2.2.1.length=ord.length/\s.2.2.2.2.1.length=sup.length)/\∃ l:List Int,s.2.2.2.2.2=out++[l]/\l.length=ord.length/\shareK (i:Nat) (ixs ((yaf ord.length).drop s.1.toNat)) l (s.2.2.2.1,s.2.2.2.2.1,s.2.1.2.2) s.2.2.1.2.2.1=shareK (i:Nat) (idx ord.length) (yaa ord.length 0) (asked,many,mk.2.2) fl.2.2.1,fun s=>((ord.length:Int) - s.1).toNat,⟨by simp,by simp,hok,⟨hN,hM⟩,yaa ord.length 0,by rw [ydw],by simp,rfl⟩,?_⟩
 rintro ⟨k,mk4,fl4,asked4,many4,out4⟩ ⟨k1,k2,hok4,⟨hN4,hM4⟩,l,ho4,hl4,hv4⟩
 simp only at k1 k2 hok4 hN4 hM4 ho4 hl4 hv4 ⊢
 subst ho4
 obtain ⟨k,rfl⟩:=ydF k1
 refine ⟨fun hk=>?_,fun hk=>?_⟩
 rotate_left
 ·have hk:=of_decide_eq_false hk
  rw [ydO (by rw [ydP];omega)] at hv4
  have hv4:(l,(asked4,many4,mk4.2.2),fl4.2.2.1)=shareK (i:Nat) (idx ord.length) (yaa ord.length 0) (asked,many,mk.2.2) fl.2.2.1:=hv4
  rw [<-hv4] at hv
  refine ⟨by simp only [Z.in64];omega,?_,?_,⟨⟨by omega,by omega,hok4,⟨hN4,hM4⟩,?_,?_⟩,?_⟩⟩
  all_goals first | trivial | rfl | skip
  ·rw [yao];simp;omega
  ·have e:(((i:Nat):Int)+1).toNat=i+1:=by omega
   rw [e,yaz]
   exact hv
  ·omega
 have hk:=of_decide_eq_true hk
 have hkN:k<ord.length:=by omega
 rw [ydw,zeq _ _ hkN,shareK] at hv4
 have hSv4:mk4.2.2.length=sup.length:=by have:=hok4.mo.len;simp only at this;omega
 have hserv4:smallSet (mk4.2.2.getD i 0):=hok4.mo.serves _ (zan mk4.2.2 0 i (by omega))
 have hclo4:smallSet (fl4.2.2.1.getD i 0):=hok4.cs _ (zan fl4.2.2.1 0 i (by have:=hok4.c8;omega))
 have hmi:amount (many4.getD i 0):=hok4.mo.many _ (zan many4 0 i (by omega))
 have hak:amount (asked4.getD k 0):=hok4.mo.asked _ (zan asked4 0 k (by omega))
 refine ⟨⟨by omega,by omega⟩,⟨hserv4.1,by omega,by show ((k:Nat):Int)<64;omega⟩,fun hb=>?_,fun hb=>?_⟩
 ·have hb:hasB (mk4.2.2.getD ((i:Nat):Int).toNat 0) (k:Nat)=false:=by simpa using (show (!hasB (mk4.2.2.getD ((i:Nat):Int).toNat 0) (k:Nat))=true from hb)
  rw [hb,cond_false] at hv4
  refine ⟨by simp only [Z.in64];omega,?_,?_,⟨⟨by omega,by omega,hok4,⟨hN4,hM4⟩,l,rfl,hl4,?_⟩,?_⟩⟩
  all_goals first | trivial | rfl | skip
  ·omega
 have hb:hasB (mk4.2.2.getD ((i:Nat):Int).toNat 0) (k:Nat)=true:=by simpa using (show (!hasB (mk4.2.2.getD ((i:Nat):Int).toNat 0) (k:Nat))=false from hb)
 rw [hb,cond_true] at hv4
 obtain ⟨m,hm⟩:∃ m:Market,m=(asked4,many4,mk4.2.2):=⟨_,rfl⟩
 have hmok:ShareOk m fl4.2.2.1:=by rw [hm];exact hok4
 have him:i<m.2.1.length:=by rw [hm];show i<many4.length;omega
 have hkm:k<m.1.length:=by rw [hm];show k<asked4.length;omega
 have hmi':m.2.1.getD i 0=many4.getD i 0:=by rw [hm]
 have hak':m.1.getD k 0=asked4.getD k 0:=by rw [hm]
 have hcl1:asked4.length<=1000:=by omega
 have hcl2:many4.length<=1000:=by omega
 have hkc:(0:Int)<=((k:Nat):Int)/\((k:Nat):Int)<(asked4.length:Int):=⟨by omega,by omega⟩
 have hic:(0:Int)<=((i:Nat):Int)/\((i:Nat):Int)<(many4.length:Int):=⟨by omega,by omega⟩
 have hi8:(0:Int)<=((i:Nat):Int)/\((i:Nat):Int)<8:=⟨by omega,by omega⟩
 simp only [amount,topN] at hmi hak
 have L0:=zkB hmok (n:=0) him hkm (ydz _) (by rw [hmi'];omega) (by rw [hak'];omega)
 have hall:=zmM L0.2.1
 have in1:∀ n:Int,0<=n->n<=2097152->Z.in64 (asked4.getD k 0 - n):=fun n h1 h2=>by simp only [Z.in64];omega
 have in2:∀ n:Int,0<=n->n<=2097152->Z.in64 (many4.getD i 0 - n):=fun n h1 h2=>by simp only [Z.in64];omega
 refine ⟨trivial,trivial,trivial,hcl1,hcl2,hkc,in1 0 (by decide) (by decide),hkc,hic,in2 0 (by decide) (by decide),hic,trivial,trivial,trivial,trivial,⟨?_,trivial,trivial⟩,?_,trivial,hic,hkc,fun s=>(0<=s.1/\s.1<=s.2)/\s.2<=min (many4.getD i 0) (asked4.getD k 0)/\∃ n:Nat,s.2 - s.1<=n/\bisV (fun n=>n+totalV (leastV m fl4.2.2.1 (i:Nat) (k:Nat) n)==totalV (leastV m fl4.2.2.1 (i:Nat) (k:Nat) 0)) n s.1 s.2=mostOf m fl4.2.2.1 (i:Nat) (k:Nat),fun s=>(s.2 - s.1).toNat,⟨⟨ydz _,?_⟩,ydz _,(min (many4.getD i 0) (asked4.getD k 0)).toNat,?_,?_⟩,?_⟩
 ·have:=L0.1;rw [hm] at this;exact this
 ·have:=L0.2.1;rw [hm] at this;exact this
 ·show 0<=min (many4.getD i 0) (asked4.getD k 0)
  omega
 ·show min (many4.getD i 0) (asked4.getD k 0) - 0<=_
  omega
 ·rw [mostOf,hm]
  simp only [ydw]
 rintro ⟨low,high⟩ ⟨⟨lo1,lo2⟩,hi1,n,hn,hbis⟩
 simp only at lo1 lo2 hi1 hn hbis ⊢
 refine ⟨fun hlt=>?_,fun hlt=>?_⟩
 ·have hltb:=hlt
  have hlt:=of_decide_eq_true hlt
  have hmid:=mid_bd lo1 hlt
  cases n with
  | zero=>simp at hn;omega
  | succ n =>
   rw [bisV,hltb,cond_true] at hbis
   have in0:Z.in64 (ydu (low+high+1) 2):=by simp only [Z.in64];omega
   have L1:=zkB hmok (n:=ydu (low+high+1) 2) him hkm (by omega) (by rw [hmi'];omega) (by rw [hak'];omega)
   have hbd:=zmM L1.2.1
   simp only [topN] at hbd
   refine ⟨by simp only [Z.in64];omega,by simp only [Z.in64];omega,⟨by decide,in0⟩,trivial,trivial,trivial,trivial,trivial,hcl1,hcl2,hkc,in1 _ (by omega) (by omega),hkc,hic,in2 _ (by omega) (by omega),hic,trivial,trivial,trivial,trivial,⟨?_,trivial,trivial⟩,?_,?_,trivial,trivial,fun hc=>?_,fun hc=>?_⟩
   ·have:=L1.1;rw [hm] at this;exact this
   ·have:=L1.2.1;rw [hm] at this;exact this
   ·have:Z.in64 (ydu (low+high+1) 2+totalV (leastV m fl4.2.2.1 (i:Nat) (k:Nat) (ydu (low+high+1) 2))):=by simp only [Z.in64];omega
    rw [hm] at this;exact this
   ·have hc:(ydu (low+high+1) 2+totalV (leastV m fl4.2.2.1 (i:Nat) (k:Nat) (ydu (low+high+1) 2))==totalV (leastV m fl4.2.2.1 (i:Nat) (k:Nat) 0))=true:=by rw [hm];exact hc
    rw [hc,cond_true] at hbis
    refine ⟨?_,?_,?_,?_,?_,?_,?_,?_,?_,?_,?_,?_,⟨⟨by omega,by omega⟩,hi1,n,?_,hbis⟩,?_⟩
    all_goals first | trivial | rfl | skip
    ·omega
    ·omega
   ·have hc:(ydu (low+high+1) 2+totalV (leastV m fl4.2.2.1 (i:Nat) (k:Nat) (ydu (low+high+1) 2))==totalV (leastV m fl4.2.2.1 (i:Nat) (k:Nat) 0))=false:=by rw [hm];exact hc
    rw [hc,cond_false] at hbis
    refine ⟨by simp only [Z.in64];omega,?_,?_,?_,?_,?_,?_,?_,?_,?_,?_,?_,?_,⟨⟨by omega,by omega⟩,by omega,n,?_,hbis⟩,?_⟩
    all_goals first | trivial | rfl | skip
    ·omega
    ·omega
 ·have hltb:=hlt
  have hlt:=of_decide_eq_false hlt
  have hlow:low=mostOf m fl4.2.2.1 (i:Nat) (k:Nat):=by
   rw [<-hbis]
   cases n with
   | zero=>rfl
   | succ n=>rw [bisV,hltb,cond_false]
  have hget:(out++[l]).getD (yby (out.length:Int)) []=l:=by simp [yda]
  have hset:∀ l':List Int,(out++[l]).set (yby (out.length:Int)) l'=out++[l']:=fun l'=>by simp
  have hless:=less_ok hmok.mo (n:=low) him hkm lo1 (by rw [hmi'];omega) (by rw [hak'];omega)
  rw [hm] at hless
  have hk8:k<8:=by omega
  refine ⟨⟨by omega,by rw [hget];omega⟩,hkc,in1 _ lo1 (by omega),hkc,hic,in2 _ lo1 (by omega),hic,hi8,shl_ok (by omega) (by omega),⟨hclo4.1,pow_nn _⟩,hi8,by simp only [Z.in64];omega,?_,?_,⟨⟨by omega,by omega,⟨hless,?_,fun s hs=>?_⟩,⟨?_,?_⟩,l.set k low,?_,?_,?_⟩,?_⟩⟩
  all_goals first | trivial | rfl | skip
  ·show (fl4.2.2.1.set _ _).length=8
   rw [ybV];exact hok4.c8
  ·refine set_mem (p:=smallSet) hok4.cs ?_ hs
   exact zkt hclo4 hk8
  ·rw [ybV];exact hN4
  ·rw [ybV];exact hM4
  ·rw [hget,hset];simp
  ·rw [ybV];exact hl4
  ·have e:(((k:Nat):Int)+1).toNat=k+1:=by omega
   rw [e,<-hv4,hlow,hm]
   rfl
  ·omega
end Go.Tt
