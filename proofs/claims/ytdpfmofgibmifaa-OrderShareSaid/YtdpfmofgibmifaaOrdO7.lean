/-
  Chapter 10: the lists of Share, as a flow. Plain Lean; no program in sight.
-/
import Derived.Test.YtdpfmofgibmifaaOrdO6
import Derived.Test.YtdpfmofgibmifaaOrdQ2
set_option linter.all false
set_option maxRecDepth 100000
set_option maxHeartbeats 1000000
set_option linter.unusedVariables false
namespace Go.Ord
open Go Go.Sx
theorem setOf_under' (bs:List Bool):under bs.length (setOf bs):=by
 have:=setN_lt bs
 refine ⟨Int.natCast_nonneg _,?_⟩
 rw [pow_nat]
 simp only [setOf];omega
theorem asg_out:∀ {p:List (Nat × Nat)} {m:Market} {c:List Int} {a b:Nat},(a,b)∉p→asg p m c a b=0
 | [],_,_,_,_,_=>rfl
 | (qi,qk)::p,m,c,a,b,hn=>by
  rw [asg]
  have hn2:(a,b)∉p:=fun hh=>hn (List.mem_cons_of_mem _ hh)
  cases hasB (m.2.2.getD qi 0) (qk:Nat) with
  | false=>rw [cond_false];exact asg_out hn2
  | true =>
   rw [cond_true,addP,asg_out hn2,if_neg]
   ·rfl
   ·rintro ⟨rfl,rfl⟩;exact hn List.mem_cons_self
theorem asg_app:∀ (p r:List (Nat × Nat)) (m:Market) (c:List Int) (a b:Nat),asg (p++r) m c a b=asg p m c a b+asg r (stp p (m,c)).1 (stp p (m,c)).2 a b
 | [],r,m,c,a,b=>by simp [asg,stp]
 | (i,k)::p,r,m,c,a,b=>by
  rw [List.cons_append,stp]
  cases hs:hasB (m.2.2.getD i 0) (k:Nat) with
  | false =>
   rw [cond_false,asg,hs,cond_false,asg_app]
   conv=>rhs;rw [asg,hs,cond_false]
  | true =>
   rw [cond_true,asg,hs,cond_true,addP,asg_app]
   conv=>rhs;rw [asg,hs,cond_true,addP]
   exact Int.add_right_comm _ _ _
theorem set_getD' (l:List Int) (k:Nat) (v:Int) (hk:k<l.length) (b:Nat):(l.set k v).getD b 0=if b=k then v else l.getD b 0:=less_getD hk v b
theorem shareK_asg (i:Nat):∀ (ks:List Nat) (l:List Int) (m:Market) (c:List Int),ks.Nodup→(∀ k∈ks,k<l.length)→(∀ k∈ks,l.getD k 0=0) →
  (shareK (i:Nat) (ixs ks) l m c).2=stp (ks.map fun k=>(i,k)) (m,c)∧∀ b:Nat,(shareK (i:Nat) (ixs ks) l m c).1.getD b 0=l.getD b 0+asg (ks.map fun k=>(i,k)) m c i b
 | [],l,m,c,_,_,_=>⟨rfl,fun b=>(Int.add_zero _).symm⟩
 | k::ks,l,m,c,hn,hl,hz=>by
  have hn':=List.nodup_cons.1 hn
  have hk:=hl k List.mem_cons_self
  show (shareK (i:Nat) (((k:Nat):Int)::ixs ks) l m c).2=_∧∀ b:Nat,(shareK (i:Nat) (((k:Nat):Int)::ixs ks) l m c).1.getD b 0=_
  rw [shareK,List.map_cons,stp,asg,Int.toNat_natCast]
  cases hs:hasB (m.2.2.getD i 0) (k:Nat) with
  | false =>
   simp only [cond_false]
   exact shareK_asg i ks l m c hn'.2 (fun x hx=>hl x (List.mem_cons_of_mem _ hx)) (fun x hx=>hz x (List.mem_cons_of_mem _ hx))
  | true =>
   simp only [cond_true,Int.toNat_natCast]
   obtain ⟨low,hlow⟩:∃ low,low=mostOf m c (i:Nat) (k:Nat):=⟨_,rfl⟩
   rw [←hlow]
   have ih:=shareK_asg i ks (l.set k low) (lessV m (i:Nat) (k:Nat) low) (closeP c i k) hn'.2 (fun x hx=>by rw [List.length_set];exact hl x (List.mem_cons_of_mem _ hx)) (fun x hx=>by
    rw [set_getD' l k low hk,if_neg (fun e:x=k=>hn'.1 (by rw [←e];exact hx))]
    exact hz x (List.mem_cons_of_mem _ hx))
   refine ⟨ih.1,fun b=>(ih.2 b).trans ?_⟩
   rw [set_getD' l k low hk,addP]
   by_cases e:b=k
   ·subst e
    rw [if_pos rfl,if_pos ⟨rfl,rfl⟩,hz b List.mem_cons_self];omega
   ·rw [if_neg e,if_neg (fun h=>e h.2)];omega
def rowP (N i:Nat):List (Nat × Nat):=(List.range N).map fun k=>(i,k)
theorem rowP_mem {N i a b:Nat}:(a,b)∈rowP N i↔a=i∧b<N:=by
 simp only [rowP,List.mem_map,List.mem_range,Prod.mk.injEq]
 constructor
 ·rintro ⟨k,hk,rfl,rfl⟩;exact ⟨rfl,hk⟩
 ·rintro ⟨rfl,hb⟩;exact ⟨b,hb,rfl,rfl⟩
theorem shareI_asg (N:Nat):∀ (is:List Nat) (m:Market) (c:List Int),is.Nodup→∀ t:Nat,t<is.length→∀ b:Nat,b<N →
  ((shareI N (ixs is) m c).getD t []).getD b 0=asg (is.flatMap (rowP N)) m c (is.getD t 0) b
 | [],_,_,_,t,ht,_,_=>by cases ht
 | i::is,m,c,hn,t,ht,b,hb=>by
  have hn':=List.nodup_cons.1 hn
  have hK:=shareK_asg i (List.range N) (List.replicate N 0) m c List.nodup_range (fun k hk=>by rw [List.length_replicate];exact List.mem_range.1 hk) (fun k hk=>by
   have:=List.mem_range.1 hk
   simp [List.getD,this])
  show ((shareI N (((i:Nat):Int)::ixs is) m c).getD t []).getD b 0=_
  rw [shareI,List.flatMap_cons,asg_app]
  cases t with
  | zero =>
   show ((shareK (i:Nat) (idx N) (List.replicate N 0) m c).1).getD b 0=asg (rowP N i) m c i b+_
   rw [idx_ixs,hK.2 b,asg_out (p:=is.flatMap (rowP N))]
   ·have:(List.replicate N (0:Int)).getD b 0=0:=by simp [List.getD,hb]
    rw [this,Int.zero_add,Int.add_zero];rfl
   ·intro hm
    obtain ⟨j,hj,hjm⟩:=List.mem_flatMap.1 hm
    have e:i=j:=(rowP_mem.1 hjm).1
    rw [←e] at hj
    exact hn'.1 hj
  | succ t =>
   have ht':t<is.length:=by simpa using ht
   have ih:=shareI_asg N is (stp (rowP N i) (m,c)).1 (stp (rowP N i) (m,c)).2 hn'.2 t ht' b hb
   show ((shareI N (ixs is) (shareK (i:Nat) (idx N) (List.replicate N 0) m c).2.1 (shareK (i:Nat) (idx N) (List.replicate N 0) m c).2.2).getD t []).getD b 0=asg (rowP N i) m c (is.getD t 0) b+_
   rw [idx_ixs,hK.1]
   rw [asg_out (p:=rowP N i),Int.zero_add]
   ·exact ih
   ·intro hm
    have:=(rowP_mem.1 hm).1
    exact hn'.1 (this▸getD_mem is 0 t ht')
def pairsL (M N:Nat):List (Nat × Nat):=(List.range M).flatMap (rowP N)
theorem pairsL_mem {M N a b:Nat}:(a,b)∈pairsL M N↔a<M∧b<N:=by
 simp only [pairsL,List.mem_flatMap,List.mem_range,rowP_mem]
 exact ⟨fun ⟨i,hi,e,hb⟩=>⟨e▸hi,hb⟩,fun ⟨h1,h2⟩=>⟨a,h1,rfl,h2⟩⟩
theorem pairs_nodup (N:Nat):∀ is:List Nat,is.Nodup→(is.flatMap (rowP N)).Nodup
 | [],_=>List.nodup_nil
 | i::is,h=>by
  have h':=List.nodup_cons.1 h
  rw [List.flatMap_cons]
  refine List.nodup_append.2 ⟨?_,pairs_nodup N is h'.2,fun q hq q' hq' e=>?_⟩
  ·rw [rowP,List.Nodup,List.pairwise_map]
   exact List.Pairwise.imp (fun h e=>h (by cases e;rfl)) (List.nodup_range (n:=N))
  ·subst e
   obtain ⟨a,b⟩:=q
   obtain ⟨j,hj,hjm⟩:=List.mem_flatMap.1 hq'
   rw [(rowP_mem.1 hq).1] at hjm
   rw [(rowP_mem.1 hjm).1] at h'
   exact h'.1 hj
def c0:List Int:=List.replicate 8 0
theorem c0u_get (i k:Nat):hasB (c0.getD i 0) (k:Nat)=false:=by
 have:c0.getD i 0=0:=by
  simp only [c0,List.getD,List.getElem?_replicate]
  split<;>rfl
 rw [this];simp [hasB]
theorem ready_start {m:Market} (h:MarketOk m):Ready m c0 (pairsL m.2.1.length m.1.length):=by
 refine ⟨⟨h,by simp [c0],fun s hs=>?_⟩,fun p hp=>?_,pairs_nodup _ _ List.nodup_range,fun i k hi hk _=>?_⟩
 ·rw [(List.mem_replicate.1 hs).2];exact ⟨by decide,by decide⟩
 ·obtain ⟨a,b⟩:=p;exact pairsL_mem.1 hp
 ·exact ⟨fun _=>pairsL_mem.2 ⟨hi,hk⟩,fun _=>c0u_get i k⟩
def shareG (m:Market):Nat→Nat→Int:=asg (pairsL m.2.1.length m.1.length) m c0
theorem share_get (m:Market) {i k:Nat} (hi:i<m.2.1.length) (hk:k<m.1.length):((shareV m).getD i []).getD k 0=shareG m i k:=by
 have:=shareI_asg m.1.length (List.range m.2.1.length) m c0 List.nodup_range i (by simpa using hi) k hk
 rw [shareV,idx_ixs]
 rw [show (List.range m.2.1.length).getD i 0=i from by simp [List.getD,hi]] at this
 exact this
theorem range_split {n i:Nat} (h:i<n):List.range n=(List.range n).take i++i::(List.range n).drop (i+1):=by
 have:=List.take_append_drop i (List.range n)
 rw [drop_getD (List.range n) 0 i (by simpa using h)] at this
 rw [show (List.range n).getD i 0=i from by simp [List.getD,h]] at this
 exact this.symm
theorem drop_mem {n i j:Nat} (h1:i<j) (h2:j<n):j∈(List.range n).drop (i+1):=by
 rw [List.mem_drop_iff_getElem]
 exact ⟨j - (i+1),by simp;omega,by simp;omega⟩
theorem share_first {m:Market} (h:MarketOk m) {i k mm j:Nat} (hij:i<j) (hkm:k<mm) (hj:j<m.2.1.length) (hmm:mm<m.1.length)
  (s1:hasB (m.2.2.getD i 0) (k:Nat)=true) (s2:hasB (m.2.2.getD j 0) (mm:Nat)=true) (n1:0<shareG m i mm) (n2:0<shareG m j k):False:=by
 have hR:=ready_start h
 have e1:=range_split (n:=m.2.1.length) (i:=i) (by omega)
 have e2:=range_split (n:=m.1.length) (i:=k) (by omega)
 have eL:pairsL m.2.1.length m.1.length=(((List.range m.2.1.length).take i).flatMap (rowP m.1.length)++((List.range m.1.length).take k).map fun b=>(i,b))++(i,k)::(((List.range m.1.length).drop (k+1)).map (fun b=>(i,b))++((List.range m.2.1.length).drop (i+1)).flatMap (rowP m.1.length)):=by
  rw [pairsL]
  conv=>lhs;rw [e1]
  rw [List.flatMap_append,List.flatMap_cons]
  have:rowP m.1.length i=(((List.range m.1.length).take k).map fun b=>(i,b))++(i,k)::(((List.range m.1.length).drop (k+1)).map fun b=>(i,b)):=by
   rw [rowP]
   conv=>lhs;rw [e2]
   rw [List.map_append,List.map_cons]
  rw [this]
  simp only [List.append_assoc,List.cons_append]
 rw [shareG,eL] at n1 n2
 rw [eL] at hR
 refine asg_first hR (j:=j) (mm:=mm) ?_ ?_ ?_ (by omega) (by omega) s1 s2 n1 n2
 ·exact List.mem_append.2 (.inl (List.mem_map.2 ⟨mm,drop_mem hkm hmm,rfl⟩))
 ·exact List.mem_append.2 (.inr (List.mem_flatMap.2 ⟨j,drop_mem hij hj,rowP_mem.2 ⟨rfl,by omega⟩⟩))
 ·exact List.mem_append.2 (.inr (List.mem_flatMap.2 ⟨j,drop_mem hij hj,rowP_mem.2 ⟨rfl,hmm⟩⟩))
theorem lackM_O {m:Market} {X:Int} (hX:under m.1.length X):lackM m X=lackO m (fun i k=>hasB (m.2.2.getD i 0) (k:Nat)) (fun k=>hasB X (k:Nat)):=by
 rw [lackM_sum]
 simp only [lackO]
 congr 1
 refine sumN_congr fun i hi=>?_
 congr 1
 refine bool_ext ?_
 rw [touch_iff,touchO_iff]
 constructor
 ·rintro ⟨k,h1,h2⟩
  refine ⟨k,?_,h2,h1⟩
  refine Classical.byContradiction fun hn=>?_
  rw [under_bit hX (by omega)] at h2;cases h2
 ·rintro ⟨k,_,h1,h2⟩;exact ⟨k,h2,h1⟩
theorem top_most {m:Market} (h:MarketOk m):topV m c0=askedS m - (mostV (lackM m) (setsTo (2^m.1.length))).2:=by
 have hR:=ready_start h
 have hm:=most_spec (lackM m) (setsTo (2^m.1.length))
 have hop:opF m c0=fun i k=>hasB (m.2.2.getD i 0) (k:Nat):=by
  funext i k
  simp only [opF,c0u_get]
  simp
 refine Int.le_antisymm ?_ ?_
 ·obtain ⟨g,hg,_,hv⟩:=flow_max hR.ok
  rw [←hv]
  rw [hop] at hg
  by_cases e:mostV (lackM m) (setsTo (2^m.1.length))=(0,0)
  ·rw [e]
   have:=cut_le hg (fun i hi=>(h.many _ (getD_mem _ 0 i hi)).1) (fun k=>hasB 0 (k:Nat))
   have hp:=Nat.pow_pos (n:=m.1.length) (show 0<2 by decide)
   rw [←lackM_O (X:=0) ⟨Int.le_refl _,by rw [pow_nat];omega⟩,lack_empty] at this
   exact this
  ·obtain ⟨h1,h2⟩:=hm.val e
   have hr:=setsTo_mem.1 h1
   have:=cut_le hg (fun i hi=>(h.many _ (getD_mem _ 0 i hi)).1) (fun k=>hasB (mostV (lackM m) (setsTo (2^m.1.length))).1 (k:Nat))
   rw [←lackM_O ⟨hr.1,by rw [pow_nat];exact hr.2⟩,h2] at this
   exact this
 ·obtain ⟨Y,hY⟩:=top_cut hR.ok
  rw [hop] at hY
  obtain ⟨X,hXd⟩:∃ X,X=setOf ((List.range m.1.length).map Y):=⟨_,rfl⟩
  have hXu:under m.1.length X:=by
   have:=setOf_under' ((List.range m.1.length).map Y)
   rwa [List.length_map,List.length_range,←hXd] at this
  have hbit:∀ k,k<m.1.length→hasB X (k:Nat)=Y k:=by
   intro k hk
   rw [hXd,has_setOf]
   simp [List.getD,hk]
  have e:lackO m (fun i k=>hasB (m.2.2.getD i 0) (k:Nat)) Y=lackM m X:=by
   rw [lackM_O hXu]
   simp only [lackO]
   congr 1
   ·exact sumN_congr fun k hk=>by rw [hbit k hk]
   ·refine sumN_congr fun i hi=>?_
    congr 1
    refine bool_ext ?_
    rw [touchO_iff,touchO_iff]
    constructor
    ·rintro ⟨k,hk,h1,h2⟩;exact ⟨k,hk,by rw [hbit k hk];exact h1,h2⟩
    ·rintro ⟨k,hk,h1,h2⟩;exact ⟨k,hk,by rw [←hbit k hk];exact h1,h2⟩
  have:=hm.max X (setsTo_mem.2 ⟨hXu.1,by have:=hXu.2;rwa [pow_nat] at this⟩)
  rw [hY,e]
  omega
end Go.Ord
