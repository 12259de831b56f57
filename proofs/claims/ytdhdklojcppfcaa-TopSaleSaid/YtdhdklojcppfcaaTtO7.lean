/-
  Chapter 10: the lists of Share, as a flow. Plain Lean; no program in sight.
-/
import Derived.Test.YtdhdklojcppfcaaTtO6
set_option linter.all false
set_option maxRecDepth 100000
set_option maxHeartbeats 1000000
set_option linter.unusedVariables false
open Int renaming add_zero->ydX,toNat_natCast->ydw,zero_add->ydZ
open List renaming flatMap_cons->yaN,getD->yda,mem_cons_of_mem->yal,mem_cons_self->yam,mem_flatMap->yaO,mem_range->ycU,nodup_cons->ycB,nodup_range->ydY,range->yaf,replicate->yaa
namespace Go.Tt
open Go Go.Sx
theorem zlu (bs:List Bool):under bs.length (setOf bs):=by
 have:=setN_lt bs
 refine ⟨Int.natCast_nonneg _,?_⟩
 rw [pow_nat]
 simp only [setOf];omega
theorem asg_out:∀ {p:List (Nat × Nat)} {m:Market} {c:List Int} {a b:Nat},(a,b)∉p->asg p m c a b=0
 | [],_,_,_,_,_=>rfl
 | (qi,qk)::p,m,c,a,b,hn=>by
  rw [asg]
  have hn2:(a,b)∉p:=fun hh=>hn (yal _ hh)
  cases hasB (m.2.2.getD qi 0) (qk:Nat) with
  | false=>rw [cond_false];exact asg_out hn2
  | true =>
   rw [cond_true,addP,asg_out hn2,if_neg]
   ·rfl
   ·rintro ⟨rfl,rfl⟩;exact hn yam
theorem asg_app:∀ (p r:List (Nat × Nat)) (m:Market) (c:List Int) (a b:Nat),asg (p++r) m c a b=asg p m c a b+asg r (stp p (m,c)).1 (stp p (m,c)).2 a b
 | [],r,m,c,a,b=>by simp [asg,stp]
 | (i,k)::p,r,m,c,a,b=>by
  rw [List.cons_append,stp]
  cases hs:hasB (m.2.2.getD i 0) (k:Nat) with
  | false =>
   rw [cond_false,asg,hs,cond_false,asg_app]
   conv=>rhs;rw [asg,hs,cond_false]
  | true =>
   rw [cond_true,asg,hs,cond_true,addP,asg_app]
   conv=>rhs;rw [asg,hs,cond_true,addP]
   exact Int.add_right_comm _ _ _
theorem zlt (l:List Int) (k:Nat) (v:Int) (hk:k<l.length) (b:Nat):(l.set k v).getD b 0=if b=k then v else l.getD b 0:=zev hk v b
theorem zgD (i:Nat):∀ (ks:List Nat) (l:List Int) (m:Market) (c:List Int),ks.Nodup->(∀ k∈ks,k<l.length)->(∀ k∈ks,l.getD k 0=0) ->
  (shareK (i:Nat) (ixs ks) l m c).2=stp (ks.map fun k=>(i,k)) (m,c)/\∀ b:Nat,(shareK (i:Nat) (ixs ks) l m c).1.getD b 0=l.getD b 0+asg (ks.map fun k=>(i,k)) m c i b
 | [],l,m,c,_,_,_=>⟨rfl,fun b=>(ydX _).symm⟩
 | k::ks,l,m,c,hn,hl,hz=>by
  have hn':=ycB.1 hn
  have hk:=hl k yam
  show (shareK (i:Nat) (((k:Nat):Int)::ixs ks) l m c).2=_/\∀ b:Nat,(shareK (i:Nat) (((k:Nat):Int)::ixs ks) l m c).1.getD b 0=_
  rw [shareK,List.map_cons,stp,asg,ydw]
  cases hs:hasB (m.2.2.getD i 0) (k:Nat) with
  | false =>
   simp only [cond_false]
   exact zgD i ks l m c hn'.2 (fun x hx=>hl x (yal _ hx)) (fun x hx=>hz x (yal _ hx))
  | true =>
   simp only [cond_true,ydw]
   obtain ⟨low,hlow⟩:∃ low,low=mostOf m c (i:Nat) (k:Nat):=⟨_,rfl⟩
   rw [<-hlow]
   have ih:=zgD i ks (l.set k low) (lessV m (i:Nat) (k:Nat) low) (closeP c i k) hn'.2 (fun x hx=>by rw [List.length_set];exact hl x (yal _ hx)) (fun x hx=>by
    rw [zlt l k low hk,if_neg (fun e:x=k=>hn'.1 (by rw [<-e];exact hx))]
    exact hz x (yal _ hx))
   refine ⟨ih.1,fun b=>(ih.2 b).trans ?_⟩
   rw [zlt l k low hk,addP]
   by_cases e:b=k
   ·subst e
    rw [if_pos rfl,if_pos ⟨rfl,rfl⟩,hz b yam];omega
   ·rw [if_neg e,if_neg (fun h=>e h.2)];omega
def rowP (N i:Nat):List (Nat × Nat):=(yaf N).map fun k=>(i,k)
theorem zgc {N i a b:Nat}:(a,b)∈rowP N i↔a=i/\b<N:=by
 simp only [rowP,List.mem_map,ycU,Prod.mk.injEq]
 constructor
 ·rintro ⟨k,hk,rfl,rfl⟩;exact ⟨rfl,hk⟩
 ·rintro ⟨rfl,hb⟩;exact ⟨b,hb,rfl,rfl⟩
theorem zjv (N:Nat):∀ (is:List Nat) (m:Market) (c:List Int),is.Nodup->∀ t:Nat,t<is.length->∀ b:Nat,b<N ->
  ((shareI N (ixs is) m c).getD t []).getD b 0=asg (is.flatMap (rowP N)) m c (is.getD t 0) b
 | [],_,_,_,t,ht,_,_=>by cases ht
 | i::is,m,c,hn,t,ht,b,hb=>by
  have hn':=ycB.1 hn
  have hK:=zgD i (yaf N) (yaa N 0) m c ydY (fun k hk=>by rw [List.length_replicate];exact ycU.1 hk) (fun k hk=>by
   have:=ycU.1 hk
   simp [yda,this])
  show ((shareI N (((i:Nat):Int)::ixs is) m c).getD t []).getD b 0=_
  rw [shareI,yaN,asg_app]
  cases t with
  | zero =>
   show ((shareK (i:Nat) (idx N) (yaa N 0) m c).1).getD b 0=asg (rowP N i) m c i b+_
   rw [idx_ixs,hK.2 b,asg_out (p:=is.flatMap (rowP N))]
   ·have:(yaa N (0:Int)).getD b 0=0:=by simp [yda,hb]
    rw [this,ydZ,ydX];rfl
   ·intro hm
    obtain ⟨j,hj,hjm⟩:=yaO.1 hm
    have e:i=j:=(zgc.1 hjm).1
    rw [<-e] at hj
    exact hn'.1 hj
  | succ t =>
   have ht':t<is.length:=by simpa using ht
   have ih:=zjv N is (stp (rowP N i) (m,c)).1 (stp (rowP N i) (m,c)).2 hn'.2 t ht' b hb
   show ((shareI N (ixs is) (shareK (i:Nat) (idx N) (yaa N 0) m c).2.1 (shareK (i:Nat) (idx N) (yaa N 0) m c).2.2).getD t []).getD b 0=asg (rowP N i) m c (is.getD t 0) b+_
   rw [idx_ixs,hK.1]
   rw [asg_out (p:=rowP N i),ydZ]
   ·exact ih
   ·intro hm
    have:=(zgc.1 hm).1
    exact hn'.1 (this▸zan is 0 t ht')
def pairsL (M N:Nat):List (Nat × Nat):=(yaf M).flatMap (rowP N)
theorem zjH {M N a b:Nat}:(a,b)∈pairsL M N↔a<M/\b<N:=by
 simp only [pairsL,yaO,ycU,zgc]
 exact ⟨fun ⟨i,hi,e,hb⟩=>⟨e▸hi,hb⟩,fun ⟨h1,h2⟩=>⟨a,h1,rfl,h2⟩⟩
theorem ziy (N:Nat):∀ is:List Nat,is.Nodup->(is.flatMap (rowP N)).Nodup
 | [],_=>List.nodup_nil
 | i::is,h=>by
  have h':=ycB.1 h
  rw [yaN]
  refine List.nodup_append.2 ⟨?_,ziy N is h'.2,fun q hq q' hq' e=>?_⟩
  ·rw [rowP,List.Nodup,List.pairwise_map]
   exact List.Pairwise.imp (fun h e=>h (by cases e;rfl)) (ydY (n:=N))
  ·subst e
   obtain ⟨a,b⟩:=q
   obtain ⟨j,hj,hjm⟩:=yaO.1 hq'
   rw [(zgc.1 hq).1] at hjm
   rw [(zgc.1 hjm).1] at h'
   exact h'.1 hj
def c0:List Int:=yaa 8 0
theorem c0u_get (i k:Nat):hasB (c0.getD i 0) (k:Nat)=false:=by
 have:c0.getD i 0=0:=by
  simp only [c0,yda,List.getElem?_replicate]
  split<;>rfl
 rw [this];simp [hasB]
theorem ziq {m:Market} (h:MarketOk m):Ready m c0 (pairsL m.2.1.length m.1.length):=by
 refine ⟨⟨h,by simp [c0],fun s hs=>?_⟩,fun p hp=>?_,ziy _ _ ydY,fun i k hi hk _=>?_⟩
 ·rw [(List.mem_replicate.1 hs).2];exact ⟨by decide,by decide⟩
 ·obtain ⟨a,b⟩:=p;exact zjH.1 hp
 ·exact ⟨fun _=>zjH.2 ⟨hi,hk⟩,fun _=>c0u_get i k⟩
def shareG (m:Market):Nat->Nat->Int:=asg (pairsL m.2.1.length m.1.length) m c0
theorem zoF (m:Market) {i k:Nat} (hi:i<m.2.1.length) (hk:k<m.1.length):((shareV m).getD i []).getD k 0=shareG m i k:=by
 have:=zjv m.1.length (yaf m.2.1.length) m c0 ydY i (by simpa using hi) k hk
 rw [shareV,idx_ixs]
 rw [show (yaf m.2.1.length).getD i 0=i from by simp [yda,hi]] at this
 exact this
theorem lackM_O {m:Market} {X:Int} (hX:under m.1.length X):lackM m X=lackO m (fun i k=>hasB (m.2.2.getD i 0) (k:Nat)) (fun k=>hasB X (k:Nat)):=by
 rw [ziD]
 simp only [lackO]
 congr 1
 refine zaA fun i hi=>?_
 congr 1
 refine ze ?_
 rw [zie,zdv]
 constructor
 ·rintro ⟨k,h1,h2⟩
  refine ⟨k,?_,h2,h1⟩
  refine Classical.byContradiction fun hn=>?_
  rw [zid hX (by omega)] at h2;cases h2
 ·rintro ⟨k,_,h1,h2⟩;exact ⟨k,h2,h1⟩
theorem zpB {m:Market} (h:MarketOk m):topV m c0=askedS m - (mostV (lackM m) (setsTo (2^m.1.length))).2:=by
 have hR:=ziq h
 have hm:=ziB (lackM m) (setsTo (2^m.1.length))
 have hop:opF m c0=fun i k=>hasB (m.2.2.getD i 0) (k:Nat):=by
  funext i k
  simp only [opF,c0u_get]
  simp
 refine Int.le_antisymm ?_ ?_
 ·obtain ⟨g,hg,_,hv⟩:=zhS hR.ok
  rw [<-hv]
  rw [hop] at hg
  by_cases e:mostV (lackM m) (setsTo (2^m.1.length))=(0,0)
  ·rw [e]
   have:=cut_le hg (fun i hi=>(h.many _ (zan _ 0 i hi)).1) (fun k=>hasB 0 (k:Nat))
   have hp:=Nat.pow_pos (n:=m.1.length) (show 0<2 by decide)
   rw [<-lackM_O (X:=0) ⟨Int.le_refl _,by rw [pow_nat];omega⟩,zft] at this
   exact this
  ·obtain ⟨h1,h2⟩:=hm.val e
   have hr:=zcQ.1 h1
   have:=cut_le hg (fun i hi=>(h.many _ (zan _ 0 i hi)).1) (fun k=>hasB (mostV (lackM m) (setsTo (2^m.1.length))).1 (k:Nat))
   rw [<-lackM_O ⟨hr.1,by rw [pow_nat];exact hr.2⟩,h2] at this
   exact this
 ·obtain ⟨Y,hY⟩:=top_cut hR.ok
  rw [hop] at hY
  obtain ⟨X,hXd⟩:∃ X,X=setOf ((yaf m.1.length).map Y):=⟨_,rfl⟩
  have hXu:under m.1.length X:=by
   have:=zlu ((yaf m.1.length).map Y)
   rwa [List.length_map,List.length_range,<-hXd] at this
  have hbit:∀ k,k<m.1.length->hasB X (k:Nat)=Y k:=by
   intro k hk
   rw [hXd,ziI]
   simp [yda,hk]
  have e:lackO m (fun i k=>hasB (m.2.2.getD i 0) (k:Nat)) Y=lackM m X:=by
   rw [lackM_O hXu]
   simp only [lackO]
   congr 1
   ·exact zaA fun k hk=>by rw [hbit k hk]
   ·refine zaA fun i hi=>?_
    congr 1
    refine ze ?_
    rw [zdv,zdv]
    constructor
    ·rintro ⟨k,hk,h1,h2⟩;exact ⟨k,hk,by rw [hbit k hk];exact h1,h2⟩
    ·rintro ⟨k,hk,h1,h2⟩;exact ⟨k,hk,by rw [<-hbit k hk];exact h1,h2⟩
  have:=hm.max X (zcQ.2 ⟨hXu.1,by have:=hXu.2;rwa [pow_nat] at this⟩)
  rw [hY,e]
  omega
end Go.Tt
