/-
  Chapter 10: all pairs, in their order. Plain Lean; no program in sight.
-/
import Derived.Test.YtdpfmofgibmifaaOrdO5
set_option linter.all false
set_option maxRecDepth 100000
set_option maxHeartbeats 1000000
set_option linter.unusedVariables false
namespace Go.Ord
open Go Go.Sx
def closeP (c:List Int) (i k:Nat):List Int:=c.set ((i:Nat):Int).toNat ((((c.getD ((i:Nat):Int).toNat 0).toNat ||| (1*2^((k:Nat):Int).toNat:Int).toNat:Nat):Int))
def asg:List (Nat × Nat)→Market→List Int→Nat→Nat→Int
 | [],_,_=>fun _ _=>0
 | (i,k)::r,m,c=>cond (hasB (m.2.2.getD i 0) (k:Nat))
  (addP (asg r (lessV m (i:Nat) (k:Nat) (mostOf m c (i:Nat) (k:Nat))) (closeP c i k)) i k (mostOf m c (i:Nat) (k:Nat))) (asg r m c)
def stp:List (Nat × Nat)→Market × List Int→Market × List Int
 | [],s=>s
 | (i,k)::r,s=>cond (hasB (s.1.2.2.getD i 0) (k:Nat)) (stp r (lessV s.1 (i:Nat) (k:Nat) (mostOf s.1 s.2 (i:Nat) (k:Nat)),closeP s.2 i k)) (stp r s)
structure Ready (m:Market) (c:List Int) (r:List (Nat × Nat)):Prop where
 ok:ShareOk m c
 dim:∀ p∈r,p.1<m.2.1.length∧p.2<m.1.length
 nod:r.Nodup
 op:∀ i k,i<m.2.1.length→k<m.1.length→hasB (m.2.2.getD i 0) (k:Nat)=true→(hasB (c.getD i 0) (k:Nat)=false↔(i,k)∈r)
theorem close_get {c:List Int} (h8:c.length=8) {i k:Nat} (hi:i<8) (a b:Nat):hasB ((closeP c i k).getD a 0) (b:Nat)=(hasB (c.getD a 0) (b:Nat)||decide (a=i∧b=k)):=by
 simp only [closeP,Int.toNat_natCast]
 rw [less_getD (by omega)]
 by_cases e:a=i
 ·subst e
  rw [if_pos rfl]
  have:=has_or (s:=c.getD a 0) (k:=k) (j:=b)
  simp only [Int.toNat_natCast] at this
  rw [this]
  by_cases e2:b=k
  ·rw [decide_eq_true e2.symm,decide_eq_true ⟨rfl,e2⟩]
  ·rw [decide_eq_false (fun h=>e2 h.symm),decide_eq_false (fun h=>e2 h.2)]
 ·rw [if_neg e,decide_eq_false (fun h=>e h.1),Bool.or_false]
theorem ready_skip {m:Market} {c:List Int} {i k:Nat} {r:List (Nat × Nat)} (h:Ready m c ((i,k)::r)) (hs:hasB (m.2.2.getD i 0) (k:Nat)=false):Ready m c r:=by
 refine ⟨h.ok,fun p hp=>h.dim p (List.mem_cons_of_mem _ hp),(List.nodup_cons.1 h.nod).2,fun a b ha hb hsv=>?_⟩
 rw [h.op a b ha hb hsv]
 constructor
 ·intro hm
  rcases List.mem_cons.1 hm with e | hm
  ·cases e;rw [hs] at hsv;cases hsv
  ·exact hm
 ·exact List.mem_cons_of_mem _
theorem ready_open {m:Market} {c:List Int} {i k:Nat} {r:List (Nat × Nat)} (h:Ready m c ((i,k)::r)) (hs:hasB (m.2.2.getD i 0) (k:Nat)=true):opF m c i k=true∧Pair m c i k (mostOf m c (i:Nat) (k:Nat)):=by
 obtain ⟨hi,hk⟩:=h.dim (i,k) List.mem_cons_self
 have hop:opF m c i k=true:=by
  have:=(h.op i k hi hk hs).2 List.mem_cons_self
  simp only [opF,hs,this];rfl
 exact ⟨hop,most_pair h.ok hi hk hop⟩
theorem ready_step {m:Market} {c:List Int} {i k:Nat} {r:List (Nat × Nat)} (h:Ready m c ((i,k)::r)) (hs:hasB (m.2.2.getD i 0) (k:Nat)=true) :
  Ready (lessV m (i:Nat) (k:Nat) (mostOf m c (i:Nat) (k:Nat))) (closeP c i k) r:=by
 obtain ⟨hi,hk⟩:=h.dim (i,k) List.mem_cons_self
 have hi:i<m.2.1.length:=hi
 have hk:k<m.1.length:=hk
 obtain ⟨_,hp⟩:=ready_open h hs
 have m8:=h.ok.mo.m8
 have a8:=h.ok.mo.a8
 have hl:=less_share h.ok hi hk hp.nn hp.l1 hp.l2
 have hcl:smallSet (c.getD i 0):=h.ok.cs _ (getD_mem _ 0 i (by have:=h.ok.c8;omega))
 refine ⟨⟨hl.mo,by simp [closeP,h.ok.c8],fun s hm=>?_⟩,fun p hpm=>?_,(List.nodup_cons.1 h.nod).2,fun a b ha hb hsv=>?_⟩
 ·refine set_mem (p:=smallSet) h.ok.cs ?_ hm
  have:=or_small (s:=c.getD i 0) (k:=k) hcl (by omega)
  simp only [Int.toNat_natCast] at this ⊢
  exact this
 ·have:=h.dim p (List.mem_cons_of_mem _ hpm)
  simpa [lessV] using this
 ·have ha:a<m.2.1.length:=by simpa [lessV] using ha
  have hb:b<m.1.length:=by simpa [lessV] using hb
  have hsv:hasB (m.2.2.getD a 0) (b:Nat)=true:=hsv
  rw [close_get h.ok.c8 (by omega),Bool.or_eq_false_iff,h.op a b ha hb hsv,decide_eq_false_iff_not]
  constructor
  ·rintro ⟨h1,h2⟩
   rcases List.mem_cons.1 h1 with e | h1
   ·cases e;exact absurd ⟨rfl,rfl⟩ h2
   ·exact h1
  ·intro h1
   refine ⟨List.mem_cons_of_mem _ h1,fun e=>?_⟩
   obtain ⟨rfl,rfl⟩:=e
   exact (List.nodup_cons.1 h.nod).1 h1
theorem flow_zero {m:Market} (h:MarketOk m) (op:Nat→Nat→Bool):IsFlow m op (fun _ _=>0):=by
 refine ⟨fun _ _=>Int.le_refl _,fun i k hp=>absurd hp (by decide),fun i hi=>?_,fun k hk=>?_⟩
 ·rw [sumN_const];exact (h.many _ (getD_mem _ 0 i hi)).1
 ·rw [sumN_const];exact (h.asked _ (getD_mem _ 0 k hk)).1
theorem flow_op {m:Market} {op op':Nat→Nat→Bool} {g:Nat→Nat→Int} (h:IsFlow m op g) (hop:∀ i k,0<g i k→op i k=true→op' i k=true):IsFlow m op' g :=
 ⟨h.pos,fun i k hp=>hop i k hp (h.can i k hp),h.row,h.col⟩
theorem asg_spec:∀ (r:List (Nat × Nat)) (m:Market) (c:List Int),Ready m c r→IsFlow m (opF m c) (asg r m c)∧valF m (asg r m c)=topV m c∧∀ a b,0<asg r m c a b→(a,b)∈r
 | [],m,c,h=>by
  refine ⟨flow_zero h.ok.mo _,?_,fun a b hp=>absurd hp (by show ¬ (0:Int)<0;decide)⟩
  obtain ⟨g,hg,hd,hv⟩:=flow_max h.ok
  rw [←hv]
  show valF m (fun _ _=>0)=valF m g
  have:g=fun _ _=>0:=by
   funext a b
   rcases Int.lt_or_le 0 (g a b) with hp | hp
   ·have ho:=hg.can a b hp
    obtain ⟨h1,h2⟩:=hd a b hp
    simp only [opF,Bool.and_eq_true,Bool.not_eq_true'] at ho
    have:=(h.op a b h1 h2 ho.1).1 ho.2
    cases this
   ·exact Int.le_antisymm hp (hg.pos a b)
  rw [this]
 | (i,k)::r,m,c,h=>by
  obtain ⟨hi,hk⟩:=h.dim (i,k) List.mem_cons_self
  have hi:i<m.2.1.length:=hi
  have hk:k<m.1.length:=hk
  have m8:=h.ok.mo.m8
  rw [asg]
  cases hs:hasB (m.2.2.getD i 0) (k:Nat) with
  | false =>
   rw [cond_false]
   obtain ⟨h1,h2,h3⟩:=asg_spec r m c (ready_skip h hs)
   exact ⟨h1,h2,fun a b hp=>List.mem_cons_of_mem _ (h3 a b hp)⟩
  | true =>
   rw [cond_true]
   obtain ⟨hop,hp⟩:=ready_open h hs
   have hr:=ready_step h hs
   obtain ⟨h1,h2,h3⟩:=asg_spec r _ _ hr
   generalize mostOf m c ((i:Nat):Int) ((k:Nat):Int)=low at hp hr h1 h2 h3 ⊢
   generalize asg r (lessV m (i:Nat) (k:Nat) low) (closeP c i k)=g at h1 h2 h3 ⊢
   have hl:=less_share h.ok hi hk hp.nn hp.l1 hp.l2
   have hsub:∀ a b,opF m (closeP c i k) a b=true→opF m c a b=true:=by
    intro a b ho
    simp only [opF,close_get h.ok.c8 (show i<8 by omega),Bool.and_eq_true,Bool.not_eq_true',Bool.or_eq_false_iff] at ho ⊢
    exact ⟨ho.1,ho.2.1⟩
   have h1:IsFlow (lessV m (i:Nat) (k:Nat) low) (opF m (closeP c i k)) g:=h1
   have hf:=flow_add (n':=0) hi hk hsub hop hp.nn h1
   rw [lessV_zero',Int.sub_zero] at hf
   rw [val_less] at h2
   have heq:topV (lessV m (i:Nat) (k:Nat) low) (closeP c i k)=topV (lessV m (i:Nat) (k:Nat) low) c:=by
    refine Int.le_antisymm ?_ ?_
    ·rw [←h2]
     have:=flow_le hl (flow_op h1 fun a b _ ho=>hsub a b ho)
     rwa [val_less] at this
    ·obtain ⟨g',hg',hd,hv⟩:=flow_max hl
     rw [val_less] at hv
     have hz:=hp.none g' hg' hv
     rw [←hv]
     have:=flow_le hr.ok (flow_op (op':=opF m (closeP c i k)) hg' fun a b hpos ho=>by
      have ho:opF m c a b=true:=ho
      simp only [opF,close_get h.ok.c8 (show i<8 by omega),Bool.and_eq_true,Bool.not_eq_true',Bool.or_eq_false_iff] at ho ⊢
      refine ⟨ho.1,ho.2,decide_eq_false fun e=>?_⟩
      rw [e.1,e.2,hz] at hpos
      exact absurd hpos (by decide))
     rwa [val_less] at this
   refine ⟨hf,?_,fun a b hpos=>?_⟩
   ·rw [val_addP m g hi hk,h2,heq]
    have:=hp.val
    omega
   ·simp only [addP] at hpos
    split at hpos
    ·rename_i e;rw [e.1,e.2];exact List.mem_cons_self
    ·exact List.mem_cons_of_mem _ (h3 a b (by omega))
theorem asg_zero {r:List (Nat × Nat)} {m:Market} {c:List Int} (h:Ready m c r) {a b:Nat} (hn:(a,b)∉r):asg r m c a b=0:=by
 obtain ⟨h1,_,h3⟩:=asg_spec r m c h
 have:=h1.pos a b
 rcases Int.lt_or_le 0 (asg r m c a b) with hp | hp
 ·exact absurd (h3 a b hp) hn
 ·exact Int.le_antisymm hp this
theorem ready_stp:∀ (p r:List (Nat × Nat)) (m:Market) (c:List Int),Ready m c (p++r)→Ready (stp p (m,c)).1 (stp p (m,c)).2 r∧(stp p (m,c)).1.2.2=m.2.2∧((stp p (m,c)).1.1.length=m.1.length∧(stp p (m,c)).1.2.1.length=m.2.1.length)∧∀ a b,asg (p++r) m c a b=asg p m c a b+asg r (stp p (m,c)).1 (stp p (m,c)).2 a b
 | [],r,m,c,h=>⟨h,rfl,⟨rfl,rfl⟩,fun a b=>by simp [asg,stp]⟩
 | (i,k)::p,r,m,c,h=>by
  have h:Ready m c ((i,k)::(p++r)):=h
  rw [List.cons_append,stp]
  cases hs:hasB (m.2.2.getD i 0) (k:Nat) with
  | false =>
   rw [cond_false]
   obtain ⟨h1,h2,h3,h4⟩:=ready_stp p r m c (ready_skip h hs)
   refine ⟨h1,h2,h3,fun a b=>?_⟩
   rw [asg,hs,cond_false,h4]
   conv=>rhs;rw [asg,hs,cond_false]
  | true =>
   rw [cond_true]
   have hst:=ready_step h hs
   obtain ⟨h1,h2,h3,h4⟩:=ready_stp p r _ _ hst
   refine ⟨h1,h2,⟨h3.1.trans (by simp [lessV]),h3.2.trans (by simp [lessV])⟩,fun a b=>?_⟩
   rw [asg,hs,cond_true,addP,h4]
   conv=>rhs;rw [asg,hs,cond_true,addP]
   exact Int.add_right_comm _ _ _
theorem asg_first {p r:List (Nat × Nat)} {m:Market} {c:List Int} {i k mm j:Nat} (h:Ready m c (p++(i,k)::r)) (h1:(i,mm)∈r) (h2:(j,k)∈r) (h3:(j,mm)∈r) (hik:i≠j) (hkm:k≠mm)
  (s1:hasB (m.2.2.getD i 0) (k:Nat)=true) (s2:hasB (m.2.2.getD j 0) (mm:Nat)=true) (n1:0<asg (p++(i,k)::r) m c i mm) (n2:0<asg (p++(i,k)::r) m c j k):False:=by
 obtain ⟨hR,hse,⟨d1,d2⟩,hadd⟩:=ready_stp p ((i,k)::r) m c h
 have hnp:∀ q,q∈(i,k)::r→q∉p:=fun q hq hp=>(List.nodup_append.1 h.nod).2.2 q hp q hq rfl
 have hpre:∀ (p:List (Nat × Nat)) (m:Market) (c:List Int) (a b:Nat),(a,b)∉p→asg p m c a b=0:=by
  intro p
  induction p with
  | nil=>intro m c a b _;rfl
  | cons q p ih =>
   intro m c a b hn
   obtain ⟨qi,qk⟩:=q
   rw [asg]
   have hn2:(a,b)∉p:=fun hh=>hn (List.mem_cons_of_mem _ hh)
   cases hasB (m.2.2.getD qi 0) (qk:Nat) with
   | false=>rw [cond_false];exact ih _ _ a b hn2
   | true =>
    rw [cond_true,addP,ih _ _ a b hn2,if_neg]
    ·rfl
    ·rintro ⟨rfl,rfl⟩;exact hn List.mem_cons_self
 have e1:asg (p++(i,k)::r) m c i mm=asg ((i,k)::r) (stp p (m,c)).1 (stp p (m,c)).2 i mm:=by rw [hadd,hpre p m c i mm (hnp _ (List.mem_cons_of_mem _ h1)),Int.zero_add]
 have e2:asg (p++(i,k)::r) m c j k=asg ((i,k)::r) (stp p (m,c)).1 (stp p (m,c)).2 j k:=by rw [hadd,hpre p m c j k (hnp _ (List.mem_cons_of_mem _ h2)),Int.zero_add]
 rw [e1] at n1
 rw [e2] at n2
 generalize (stp p (m,c)).1=m' at *
 generalize (stp p (m,c)).2=c' at *
 rw [←hse] at s1 s2
 obtain ⟨hi,hk⟩:=hR.dim (i,k) List.mem_cons_self
 obtain ⟨hj,hmm⟩:=hR.dim (j,mm) (List.mem_cons_of_mem _ h3)
 have hi:i<m'.2.1.length:=hi
 have hk:k<m'.1.length:=hk
 have hj:j<m'.2.1.length:=hj
 have hmm:mm<m'.1.length:=hmm
 obtain ⟨hop,hp⟩:=ready_open hR s1
 have hop2:opF m' c' j mm=true:=by
  have:=(hR.op j mm hj hmm s2).2 (List.mem_cons_of_mem _ h3)
  simp only [opF,s2,this];rfl
 obtain ⟨hf,hv,_⟩:=asg_spec _ _ _ hR
 have hown:asg ((i,k)::r) m' c' i k=mostOf m' c' (i:Nat) (k:Nat):=by
  rw [asg,s1,cond_true,addP,asg_zero (ready_step hR s1) (fun hh=>(List.nodup_cons.1 hR.nod).1 hh)]
  simp
 generalize asg ((i,k)::r) m' c'=g at hf hv hown n1 n2
 let g':=addP (addP (addP (addP g i mm (-1)) j k (-1)) i k 1) j mm 1
 have hg':IsFlow m' (opF m' c') g':=by
  refine ⟨fun a b=>?_,fun a b hpos=>?_,fun a ha=>?_,fun b hb=>?_⟩
  ·have:=hf.pos a b
   simp only [g',addP]
   by_cases c1:a=i∧b=mm
   ·obtain ⟨rfl,rfl⟩:=c1
    rw [if_pos ⟨rfl,rfl⟩,if_neg (fun e=>hik e.1),if_neg (fun e=>hkm e.2.symm),if_neg (fun e=>hik e.1)];omega
   ·by_cases c2:a=j∧b=k
    ·obtain ⟨rfl,rfl⟩:=c2
     rw [if_neg c1,if_pos ⟨rfl,rfl⟩,if_neg (fun e=>hik e.1.symm),if_neg (fun e=>hkm e.2)];omega
    ·rw [if_neg c1,if_neg c2]
     split<;>split<;>omega
  ·simp only [g',addP] at hpos
   by_cases c3:a=i∧b=k
   ·rw [c3.1,c3.2];exact hop
   ·by_cases c4:a=j∧b=mm
    ·rw [c4.1,c4.2];exact hop2
    ·rw [if_neg c3,if_neg c4] at hpos
     refine hf.can a b ?_
     split at hpos<;>split at hpos<;>omega
  ·have:=hf.row a ha
   simp only [g',sum_addP_row _ hmm,sum_addP_row _ hk]
   by_cases c1:a=i
   ·subst c1
    rw [if_pos rfl,if_neg hik];omega
   ·by_cases c2:a=j
    ·subst c2;rw [if_neg c1,if_pos rfl];omega
    ·rw [if_neg c1,if_neg c2];omega
  ·have:=hf.col b hb
   simp only [g',sum_addP_col _ hi,sum_addP_col _ hj]
   by_cases c1:b=mm
   ·subst c1
    rw [if_pos rfl,if_neg (fun e=>hkm e.symm)];omega
   ·by_cases c2:b=k
    ·subst c2;rw [if_neg c1,if_pos rfl];omega
    ·rw [if_neg c1,if_neg c2];omega
 have hv':valF m' g'=topV m' c':=by
  simp only [g',val_addP m' _ hj hmm,val_addP m' _ hi hk,val_addP m' _ hj hk,val_addP m' _ hi hmm]
  omega
 have:=hp.most g' hg' hv'
 have e:g' i k=g i k+1:=by
  show (((g i k+if i=i∧k=mm then (-1) else 0)+if i=j∧k=k then (-1) else 0)+if i=i∧k=k then 1 else 0)+(if i=j∧k=mm then 1 else 0)=_
  rw [if_neg (fun e=>hkm e.2),if_neg (fun e=>hik e.1),if_pos ⟨rfl,rfl⟩,if_neg (fun e=>hik e.1)];omega
 omega
end Go.Ord
