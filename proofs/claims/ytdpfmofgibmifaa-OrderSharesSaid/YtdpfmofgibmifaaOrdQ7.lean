/-
  Chapter 10: Share of the reference is the program's.
-/
import Derived.Test.YtdpfmofgibmifaaOrdO7
import Derived.Test.YtdpfmofgibmifaaOrdAuto4
set_option linter.all false
set_option maxRecDepth 100000
set_option maxHeartbeats 4000000
set_option linter.unusedVariables false
namespace Go.OrdS
open Go Go.Sx Go.Ord
theorem zeD:TabsOk Go.Proofs.Try.prog T4:=by
 refine ⟨by kernel_rfl,fun p hp=>?_⟩
 simp only [T4,List.mem_cons,List.not_mem_nil,or_false] at hp
 rcases hp with rfl <;>
  exact ⟨by kernel_rfl,Maps.int_keyed (q:=.i64) (by kernel_rfl),by kernel_rfl⟩
theorem v27 (x:Sale × (List Int) × List Int) (hp:k27.pre x):V27 x:=Go.Ord.v27 x hp
theorem v31 (x:Sale) (hp:k31.pre x):V31 x:=Go.Ord.v31 x hp
theorem v52 (x:(List Int) × Int × Int) (hp:k52.pre x):V52 x:=by
 obtain ⟨l,i,n⟩:=x
 obtain ⟨h8,ha,⟨i1,i2⟩,h0,h1⟩:zbD (l,i,n):=hp
 simp only [V52,List.replicate,List.nil_append] at *
 have:=ha _ (zbK l 0 i i1 i2)
 simp only [amount,topN] at this h1
 exact ⟨rm1 (by omega),⟨i1,i2⟩,by simp only [Z.in64];omega,⟨i1,i2⟩,rfl⟩
theorem sum_take:∀ (l:List Int) (n:Nat),n<=l.length->(l.take n).sum=sumN n fun k=>l.getD k 0
 | l,0,_=>rfl
 | l,n+1,h=>by
  have h':n<l.length:=by omega
  rw [zaC,<-sum_take l n (by omega),List.take_succ_eq_append_getElem h',List.sum_append]
  simp [List.getD,h']
theorem sum_all (l:List Int):l.sum=sumN l.length fun k=>l.getD k 0:=by
 have:=sum_take l l.length (Nat.le_refl _)
 rwa [List.take_length] at this
theorem sumN_bd {T:Int} {f:Nat->Int}:∀ (n:Nat),(∀ i,i<n->f i<=T)->sumN n f<=n*T
 | 0,_=>by simp [sumN]
 | n+1,h=>by
  have h1:=sumN_bd n fun i hi=>h i (by omega)
  have h2:=h n (by omega)
  rw [zaC]
  have:((n+1:Nat):Int)*T=(n:Int)*T+T:=by rw [Int.natCast_add,Int.add_mul];simp
  omega
theorem eight {n:Nat} (h:n<=8):(n:Int)*1048576<=8388608:=by omega
theorem amt_bd {l:List Int} (h8:l.length<=8) (ha:∀ n∈l,amount n) (n:Nat) (hn:n<=l.length):0<=(sumN n fun k=>l.getD k 0)∧(sumN n fun k=>l.getD k 0)<=8388608:=by
 refine ⟨zbz fun i hi=>(ha _ (zaz l 0 i (by omega))).1,?_⟩
 have:=sumN_bd (T:=1048576) (f:=fun k=>l.getD k 0) n fun i hi=>(ha _ (zaz l 0 i (by omega))).2
 have:=eight (n:=n) (by omega)
 omega
theorem top_bd {m:Market} {c:List Int} (h:ShareOk m c):0<=topV m c∧topV m c<=8388608:=by
 obtain ⟨g,hg,_,hv⟩:=flow_max h
 rw [<-hv]
 refine ⟨zbz fun i _=>zbz fun k _=>hg.pos i k,?_⟩
 exact Int.le_trans (sumN_le fun i hi=>hg.row i hi) (amt_bd h.mo.m8 h.mo.many _ (Nat.le_refl _)).2
structure SRel (m:Market) (c:List Int) (serve:List (List Bool)):Prop where
 len:serve.length=m.2.1.length
 row:∀ i,i<m.2.1.length->(serve.getD i []).length=m.1.length
 val:∀ i,i<m.2.1.length->∀ k,k<m.1.length->(serve.getD i []).getD k false=opF m c i k
theorem SRel.ok {m:Market} {c:List Int} {serve:List (List Bool)} (h:ShareOk m c) (hs:SRel m c serve):CaseOk (m.2.1,serve) m.1:=by
 have hrow:∀ l∈serve,l.length=m.1.length:=fun l hl=>by
  obtain ⟨i,hi,e⟩:=List.getElem_of_mem hl
  have:=hs.row i (by rw [<-hs.len];exact hi)
  rw [<-e]
  have e2:serve.getD i []=serve[i]:=by simp [List.getD,hi]
  rwa [e2] at this
 refine ⟨⟨h.mo.a8,h.mo.m8,by simp [caseM,hs.len],h.mo.asked,h.mo.many,fun s hm=>?_⟩,hrow⟩
 obtain ⟨l,hl,rfl⟩:=List.mem_map.1 hm
 exact zdI (by rw [hrow l hl];exact h.mo.a8)
theorem case_op {m:Market} {c:List Int} {serve:List (List Bool)} (hs:SRel m c serve) {i k:Nat} (hi:i<m.2.1.length) (hk:k<m.1.length):opF (caseM (m.2.1,serve) m.1) c0 i k=opF m c i k:=by
 rw [<-hs.val i hi k hk,<-has_setOf]
 simp only [opF,c0u_get,Bool.not_false,Bool.and_true,caseM]
 congr 1
 have hi':i<serve.length:=by rw [hs.len];exact hi
 simp [List.getD,hi']
theorem given_top {m:Market} {c:List Int} {serve:List (List Bool)} (h:ShareOk m c) (hs:SRel m c serve):zbr ((m.2.1,serve),m.1)=topV m c:=by
 have hc:=hs.ok h
 have ht:=top_most hc.mo
 have e1:zbr ((m.2.1,serve),m.1)=topV (caseM (m.2.1,serve) m.1) c0:=by
  rw [ht]
  show m.1.sum - _=sumN m.1.length _ - _
  rw [sum_all m.1]
  rfl
 rw [e1]
 have hR:=(zeI hc.mo).ok
 refine Int.le_antisymm ?_ ?_
 ·obtain ⟨g,hg,hd,hv⟩:=flow_max hR
  rw [<-hv]
  exact flow_le (g:=g) h ⟨hg.pos,fun i k hp=>by rw [<-case_op hs (hd i k hp).1 (hd i k hp).2];exact hg.can i k hp,hg.row,hg.col⟩
 ·obtain ⟨g,hg,hd,hv⟩:=flow_max h
  rw [<-hv]
  exact flow_le (g:=g) hR ⟨hg.pos,fun i k hp=>by rw [case_op hs (hd i k hp).1 (hd i k hp).2];exact hg.can i k hp,hg.row,hg.col⟩
theorem v51 (x:Case × List Int) (hp:k51.pre x):V51 x:=by
 obtain ⟨c,a⟩:=x
 have hc:CaseOk c a:=hp
 have hR:=(zeI hc.mo).ok
 have ht:=top_most hc.mo
 have hb:=top_bd hR
 have h8:a.length<=8:=hc.mo.a8
 have ha:∀ n∈a,amount n:=hc.mo.asked
 refine ⟨fun s=>0<=s.2∧s.2<=(a.length:Int)∧s.1=sumN s.2.toNat fun k=>a.getD k 0,fun s=>((a.length:Int) - s.2).toNat,⟨by simp,by simp,rfl⟩,?_⟩
 rintro ⟨s,i⟩ ⟨i1,i2,e⟩
 simp only at i1 i2 e ⊢
 subst e
 obtain ⟨i,rfl⟩:=Int.eq_ofNat_of_zero_le i1
 simp only [Int.toNat_natCast]
 have hs:=amt_bd h8 ha i (by omega)
 refine ⟨fun hi=>?_,fun hi=>?_⟩
 ·have hi:=of_decide_eq_true hi
  have hai:=ha _ (zaz a 0 i (by omega))
  simp only [amount,topN] at hai
  refine ⟨⟨i1,hi⟩,by simp only [Z.in64];omega,by simp only [Z.in64];omega,⟨by show (0:Int)<=(i:Int)+1;omega,by show (i:Int)+1<=_;omega,?_⟩,?_⟩
  ·show _=sumN ((i:Int)+1).toNat _
   rw [show ((i:Int)+1).toNat=i+1 by omega,zaC]
  ·show ((a.length:Int) - ((i:Int)+1)).toNat<((a.length:Int) - (i:Int)).toNat
   omega
 ·have hi:=of_decide_eq_false hi
  have hi:i=a.length:=by omega
  subst hi
  have e1:(zd (c,a)).2=askedS (caseM c a) - topV (caseM c a) c0:=by
   rw [ht];show _=_ - (_ - _);simp only [zd,caseM];omega
  have e2:askedS (caseM c a)=sumN a.length fun k=>a.getD k 0:=rfl
  refine ⟨hc,by simp only [Z.in64];omega,?_⟩
  show _=a.sum - (mostV (lackM (caseM c a)) (setsTo (2^a.length))).2
  rw [sum_all a]
  rfl
theorem zcO {n k:Nat} (h:k<n):(List.range n).drop k=k::(List.range n).drop (k+1):=by
 rw [zdW (List.range n) 0 k (by simpa using h)]
 simp [List.getD,h]
theorem skip_pair {m:Market} {c:List Int} {serve:List (List Bool)} {i k:Nat} {r:List (Nat × Nat)} (h:Ready m c ((i,k)::r)) (hs:SRel m c serve):(serve.getD i []).getD k false=hasB (m.2.2.getD i 0) (k:Nat):=by
 obtain ⟨hi,hk⟩:=h.dim (i,k) List.mem_cons_self
 rw [hs.val i hi k hk]
 cases e:hasB (m.2.2.getD i 0) (k:Nat) with
 | false=>simp only [opF,e,Bool.false_and]
 | true=>exact (ready_open h e).1
theorem close_rel {m:Market} {c:List Int} {serve:List (List Bool)} {i k:Nat} (h:ShareOk m c) (hs:SRel m c serve) (hi:i<m.2.1.length) (n:Int) :
  SRel (lessV m (i:Nat) (k:Nat) n) (closeP c i k) (serve.set i ((serve.getD i []).set k false)):=by
 have l1:(lessV m (i:Nat) (k:Nat) n).1.length=m.1.length:=by simp [lessV]
 have l2:(lessV m (i:Nat) (k:Nat) n).2.1.length=m.2.1.length:=by simp [lessV]
 have hi':i<serve.length:=by rw [hs.len];exact hi
 have hget:∀ a,(serve.set i ((serve.getD i []).set k false)).getD a []=if a=i then (serve.getD i []).set k false else serve.getD a []:=fun a=>by
  by_cases e:a=i
  ·subst e;rw [if_pos rfl];simp [List.getD,hi']
  ·rw [if_neg e];simp [List.getD,List.getElem?_set,Ne.symm e]
 refine ⟨by rw [List.length_set,l2];exact hs.len,fun a ha=>?_,fun a ha b hb=>?_⟩
 ·rw [l1,hget]
  rw [l2] at ha
  by_cases e:a=i
  ·rw [if_pos e,List.length_set];exact hs.row i hi
  ·rw [if_neg e];exact hs.row a ha
 ·rw [l1] at hb
  rw [l2] at ha
  rw [hget]
  have hv:=hs.val a ha b hb
  have hcl:=close_get (c:=c) h.c8 (i:=i) (k:=k) (by have:=h.mo.m8;omega) a b
  have eo:opF (lessV m (i:Nat) (k:Nat) n) (closeP c i k) a b=(hasB (m.2.2.getD a 0) (b:Nat)&&!hasB ((closeP c i k).getD a 0) (b:Nat)):=rfl
  rw [eo,hcl]
  by_cases e:a=i
  ·subst e
   rw [if_pos rfl]
   by_cases e2:b=k
   ·subst e2
    have:b<(serve.getD a []).length:=by rw [hs.row a ha];exact hb
    have e3:((serve.getD a []).set b false).getD b false=false:=by
     generalize serve.getD a []=r at this ⊢
     simp [List.getD,this]
    rw [e3];simp
   ·have:((serve.getD a []).set k false).getD b false=(serve.getD a []).getD b false:=by simp [List.getD,List.getElem?_set,Ne.symm e2]
    rw [this,hv]
    simp [opF,e2]
  ·rw [if_neg e,hv]
   simp [opF,e]
theorem bis_end {P:Int->Bool} {low high:Int} (h:high<=low):∀ f:Nat,bisV P f low high=low
 | 0=>rfl
 | f+1=>by rw [bisV,show decide (low<high)=false from decide_eq_false (by omega)];rfl
theorem top_least (m:Market) (c:List Int) (i k:Nat) (n:Int):totalV (leastV m c (i:Nat) (k:Nat) n)=topV (lessV m (i:Nat) (k:Nat) n) c:=rfl
theorem mid_bd {low high:Int} (h0:0<=low) (h:low<high):low<Int.tdiv (low+high+1) 2∧Int.tdiv (low+high+1) 2<=high:=by
 rw [Int.tdiv_eq_ediv_of_nonneg (by omega)];omega
theorem v22 (x:Sale) (hp:k22.pre x):V22 x:=by
 have hsh:short x:=hp
 refine ⟨hsh,fun hb=>?_,fun hb=>?_⟩
 ·have h:saleB x=false:=by
   cases e:saleB x with
   | false=>rfl
   | true=>simp only [zaP,e] at hb;cases hb
  show _=zam x
  rw [zam,h];rfl
 have h:saleB x=true:=by
  cases e:saleB x with
  | true=>rfl
  | false=>simp only [zaP,e] at hb;cases hb
 have W:=worst_ok h
 have S:=zbN.1 h
 have eC:=caseM_worst x
 obtain ⟨m0,hm0⟩:∃ m0,m0=worstM x:=⟨_,rfl⟩
 rw [<-hm0] at W eC
 have e1:m0.1=askedV x:=by rw [<-eC];rfl
 have e2:m0.2.1=(worstC x).1:=by rw [<-eC];rfl
 have e3:m0.2.2=(worstC x).2.map setOf:=by rw [<-eC];rfl
 have lN:m0.1.length=x.2.length:=by rw [e1,asked_len]
 have lM:m0.2.1.length=x.1.length:=by rw [e2];simp [worstC,caseOf]
 have hN8:=W.a8
 have hM8:=W.m8
 have hR0:=zeI W
 have hC:=worstC_ok h
 have hrel0:SRel m0 c0 (worstC x).2:=by
  refine ⟨?_,fun i hi=>?_,fun i hi k hk=>?_⟩
  ·have:=W.len;rw [e3,List.length_map] at this;exact this
  ·have hl:i<(worstC x).2.length:=by have:=W.len;rw [e3,List.length_map] at this;omega
   rw [hC.rows _ (zaz _ [] i hl),e1]
  ·have hl:i<(worstC x).2.length:=by have:=W.len;rw [e3,List.length_map] at this;omega
   have hg:m0.2.2.getD i 0=setOf ((worstC x).2.getD i []):=by rw [e3];simp [List.getD,hl]
   simp only [opF,c0u_get,hg,has_setOf,Bool.not_false,Bool.and_true]
 refine ⟨h,hsh,fun s=>∃ i:Nat,s.2.2.1=(i:Int)∧i<=x.1.length∧∃ m c,m.1=s.1∧m.2.1=s.2.2.2.1.1∧m.1.length=x.2.length∧m.2.1.length=x.1.length ∧
   Ready m c (((List.range x.1.length).drop i).flatMap (rowP x.2.length))∧SRel m c s.2.2.2.2∧s.2.1.length=i∧s.2.1++shareI x.2.length (ixs ((List.range x.1.length).drop i)) m c=shareV m0,
  fun s=>((x.1.length:Int) - s.2.2.1).toNat,⟨0,rfl,by omega,m0,c0,e1,e2,lN,lM,?_,hrel0,rfl,?_⟩,?_⟩
 ·rw [List.drop_zero,<-lM,<-lN];exact hR0
 ·rw [List.drop_zero,List.nil_append,shareV,idx_ixs,lN,lM];rfl
 rintro ⟨asked,out,i',⟨many,junk⟩,serve⟩ ⟨i,ei,hi8,m,c,em,en,ln,lm,hR,hS,lo,hsh⟩
 simp only at ei em en lo hsh hS ⊢
 subst ei;subst em;subst en
 simp only [Int.toNat_natCast]
 refine ⟨fun hi=>?_,fun hi=>?_⟩
 rotate_left
 ·have hi:=of_decide_eq_false hi
  have:i=x.1.length:=by omega
  subst this
  rw [List.drop_of_length_le (by simp)] at hsh
  rw [show shareI x.2.length (ixs []) m c=[] from rfl,List.append_nil] at hsh
  show _=zam x
  rw [zam,h,hsh,hm0];rfl
 have hi:=of_decide_eq_true hi
 have hi:i<x.1.length:=by omega
 have him:i<m.2.1.length:=by omega
 rw [zcO hi] at hR hsh
 have eI:shareI x.2.length (ixs (i::(List.range x.1.length).drop (i+1))) m c=(shareK (i:Int) (idx x.2.length) (List.replicate x.2.length 0) m c).1::shareI x.2.length (ixs ((List.range x.1.length).drop (i+1))) (shareK (i:Int) (idx x.2.length) (List.replicate x.2.length 0) m c).2.1 (shareK (i:Int) (idx x.2.length) (List.replicate x.2.length 0) m c).2.2:=rfl
 rw [eI] at hsh
 obtain ⟨T,hT⟩:∃ T,T=shareK (i:Int) (idx x.2.length) (List.replicate x.2.length 0) m c:=⟨_,rfl⟩
 rw [<-hT] at hsh
 refine ⟨⟨⟨by omega,by omega⟩,rm1 (by omega)⟩,fun s=>∃ k:Nat,s.2.1=(k:Int)∧k<=x.2.length∧∃ m' c',m'.1=s.1∧m'.2.1=s.2.2.1.1∧m'.1.length=x.2.length∧m'.2.1.length=x.1.length ∧
   Ready m' c' (((List.range x.2.length).drop k).map (fun b=>(i,b))++((List.range x.1.length).drop (i+1)).flatMap (rowP x.2.length))∧SRel m' c' s.2.2.2.1∧s.2.2.2.2.length=x.2.length∧shareK (i:Int) (ixs ((List.range x.2.length).drop k)) s.2.2.2.2 m' c'=T,
  fun s=>((x.2.length:Int) - s.2.1).toNat,⟨0,rfl,by omega,m,c,rfl,rfl,ln,lm,hR,hS,by simp,by rw [hT,idx_ixs];simp⟩,?_⟩
 rintro ⟨asked,k',⟨many,junk2⟩,serve,l⟩ ⟨k,ek,hk8,m',c',em,en,ln',lm',hR',hS',ll,hK⟩
 simp only at ek em en ll hK hS' ⊢
 subst ek;subst em;subst en
 simp only [Int.toNat_natCast]
 have him':i<m'.2.1.length:=by omega
 refine ⟨fun hk=>?_,fun hk=>?_⟩
 rotate_left
 ·have hk:=of_decide_eq_false hk
  have:k=x.2.length:=by omega
  subst this
  rw [List.drop_of_length_le (by simp)] at hK hR'
  have hK:(l,m',c')=T:=hK
  rw [<-hK] at hsh
  have hR':Ready m' c' (((List.range x.1.length).drop (i+1)).flatMap (rowP x.2.length)):=hR'
  refine ⟨rm1 (by rw [List.length_append,lo];simp;omega),by simp only [Z.in64];omega,⟨i+1,by omega,by omega,m',c',rfl,rfl,ln',lm',hR',hS',by rw [List.length_append,lo];rfl,?_⟩,?_⟩
  ·show (out++[l])++_=_
   rw [List.append_assoc];exact hsh
  ·show ((x.1.length:Int) - ((i:Int)+1)).toNat<((x.1.length:Int) - (i:Int)).toNat
   omega
 have hk:=of_decide_eq_true hk
 have hk:k<x.2.length:=by omega
 have hkm:k<m'.1.length:=by omega
 rw [zcO hk] at hR' hK
 have hR':Ready m' c' ((i,k)::(((List.range x.2.length).drop (k+1)).map (fun b=>(i,b))++((List.range x.1.length).drop (i+1)).flatMap (rowP x.2.length))):=hR'
 have hpair:=skip_pair hR' hS'
 have hO:=hR'.ok
 have hrowl:=hS'.row i him'
 have hlen:=hS'.len
 have eK:shareK (i:Int) (ixs (k::(List.range x.2.length).drop (k+1))) l m' c'=cond (hasB (m'.2.2.getD i 0) (k:Nat)) (shareK (i:Int) (ixs ((List.range x.2.length).drop (k+1))) (l.set k (mostOf m' c' (i:Nat) (k:Nat))) (lessV m' (i:Nat) (k:Nat) (mostOf m' c' (i:Nat) (k:Nat))) (closeP c' i k)) (shareK (i:Int) (ixs ((List.range x.2.length).drop (k+1))) l m' c'):=rfl
 rw [eK] at hK
 refine ⟨⟨by omega,by omega⟩,⟨by omega,by omega⟩,fun hb=>?_,fun hb=>?_⟩
 ·have hb:hasB (m'.2.2.getD i 0) (k:Nat)=false:=by rw [<-hpair];simpa using hb
  rw [hb,cond_false] at hK
  refine ⟨by simp only [Z.in64];omega,trivial,⟨k+1,by omega,by omega,m',c',rfl,rfl,ln',lm',ready_skip hR' hb,hS',ll,hK⟩,?_⟩
  show ((x.2.length:Int) - ((k:Int)+1)).toNat<((x.2.length:Int) - (k:Int)).toNat
  omega
 have hb:hasB (m'.2.2.getD i 0) (k:Nat)=true:=by rw [<-hpair];simpa using hb
 rw [hb,cond_true] at hK
 have hgiv:=given_top hO hS'
 have hmi:=hO.mo.many _ (zaz m'.2.1 0 i him')
 have hak:=hO.mo.asked _ (zaz m'.1 0 k hkm)
 simp only [amount,topN] at hmi hak
 obtain ⟨B,hB⟩:∃ B,B=min (m'.2.1.getD i 0) (m'.1.getD k 0):=⟨_,rfl⟩
 have hBm:B<=m'.2.1.getD i 0∧B<=m'.1.getD k 0∧0<=B:=by rw [hB];omega
 obtain ⟨P,hP⟩:∃ P:Int->Bool,P=fun n=>n+totalV (leastV m' c' (i:Nat) (k:Nat) n)==totalV (leastV m' c' (i:Nat) (k:Nat) 0):=⟨_,rfl⟩
 have hmost:mostOf m' c' (i:Nat) (k:Nat)=bisV P B.toNat 0 B:=by rw [hP,hB];rfl
 have hlow:∀ n,0<=n->n<=B->zbD (m'.2.1,(i:Int),n)∧zbD (m'.1,(k:Int),n):=fun n h0 h1 =>
  ⟨⟨hO.mo.m8,hO.mo.many,⟨by show (0:Int)<=(i:Int);omega,by show (i:Int)<(m'.2.1.length:Int);omega⟩,h0,by simp only [topN];omega⟩,⟨hO.mo.a8,hO.mo.asked,⟨by show (0:Int)<=(k:Int);omega,by show (k:Int)<(m'.1.length:Int);omega⟩,h0,by simp only [topN];omega⟩⟩
 rw [<-hB,hgiv]
 refine ⟨hS'.ok hO,⟨by omega,by omega⟩,⟨by omega,by omega⟩,fun s=>(0<=s.1∧s.1<=s.2∧s.2<=B)∧∃ f:Nat,s.2 - s.1<=f∧bisV P f s.1 s.2=mostOf m' c' (i:Nat) (k:Nat),fun s=>(s.2 - s.1).toNat,⟨⟨by simp,hBm.2.2,by simp⟩,B.toNat,by simp only;omega,hmost.symm⟩,?_⟩
 rintro ⟨low,high⟩ ⟨⟨b1,b2,b3⟩,f,hf,hbis⟩
 simp only at b1 b2 b3 hf hbis ⊢
 refine ⟨fun hlt=>?_,fun hlt=>?_⟩
 ·have hlt:=of_decide_eq_true hlt
  have hmid:=mid_bd b1 hlt
  obtain ⟨n,hn⟩:∃ n,n=Int.tdiv (low+high+1) 2:=⟨_,rfl⟩
  rw [<-hn] at hmid
  rw [<-hn]
  have hlp:=hlow n (by omega) (by omega)
  have hO2:=less_share hO him' hkm (n:=n) (by omega) (by omega) (by omega)
  have hS2:SRel (lessV m' (i:Nat) (k:Nat) n) c' serve:=by
   have l1:(lessV m' (i:Nat) (k:Nat) n).1.length=m'.1.length:=by simp [lessV]
   have l2:(lessV m' (i:Nat) (k:Nat) n).2.1.length=m'.2.1.length:=by simp [lessV]
   exact ⟨by rw [l2];exact hlen,fun a ha=>by rw [l1];rw [l2] at ha;exact hS'.row a ha,fun a ha b hb=>by rw [l2] at ha;rw [l1] at hb;exact hS'.val a ha b hb⟩
  have hg2:=given_top hO2 hS2
  have hbd:=top_bd hO2
  have eG:zbr ((zaV (m'.2.1,(i:Int),n),serve),zaV (m'.1,(k:Int),n))=topV (lessV m' (i:Nat) (k:Nat) n) c':=hg2
  rw [eG]
  have hPn:P n=((n+topV (lessV m' (i:Nat) (k:Nat) n) c')==topV m' c'):=by
   rw [hP];simp only [top_least,zeO]
  rw [<-hPn]
  obtain ⟨f',rfl⟩:∃ f',f=f'+1:=⟨f - 1,by omega⟩
  rw [bisV,decide_eq_true hlt,cond_true,<-hn] at hbis
  refine ⟨by simp only [Z.in64];omega,by simp only [Z.in64];omega,⟨by decide,by simp only [Z.in64];omega⟩,hlp.1,hlp.2,hS2.ok hO2,by simp only [Z.in64];omega,fun hp=>?_,fun hp=>?_⟩
  ·rw [hp,cond_true] at hbis
   refine ⟨trivial,trivial,trivial,trivial,⟨⟨by show 0<=n;omega,by show n<=high;omega,b3⟩,f',by show high - n<=_;omega,hbis⟩,?_⟩
   show (high - n).toNat<(high - low).toNat
   omega
  ·rw [hp,cond_false] at hbis
   refine ⟨by simp only [Z.in64];omega,trivial,trivial,trivial,trivial,⟨⟨b1,by show low<=n - 1;omega,by show n - 1<=B;omega⟩,f',by show n - 1 - low<=_;omega,hbis⟩,?_⟩
   show (n - 1 - low).toNat<(high - low).toNat
   omega
 ·have hlt:=of_decide_eq_false hlt
  have e:low=mostOf m' c' (i:Nat) (k:Nat):=by rw [<-hbis,bis_end (by omega)]
  have hlp:=hlow low b1 (by omega)
  have hRn:=ready_step hR' hb
  have hSn:=close_rel hO hS' (k:=k) him' (mostOf m' c' (i:Nat) (k:Nat))
  rw [<-e] at hRn hSn hK
  have l1:(lessV m' (i:Nat) (k:Nat) low).1.length=m'.1.length:=by simp [lessV]
  have l2:(lessV m' (i:Nat) (k:Nat) low).2.1.length=m'.2.1.length:=by simp [lessV]
  refine ⟨⟨by omega,by omega⟩,hlp.1,hlp.2,⟨by omega,by omega⟩,⟨by omega,by omega⟩,by simp only [Z.in64];omega,trivial,⟨k+1,by omega,by omega,lessV m' (i:Nat) (k:Nat) low,closeP c' i k,rfl,rfl,by omega,by omega,hRn,hSn,by rw [List.length_set];exact ll,hK⟩,?_⟩
  show ((x.2.length:Int) - ((k:Int)+1)).toNat<((x.2.length:Int) - (k:Int)).toNat
  omega
theorem v4 (x:Sale) (_:k4.pre x):V4 x:=by
 refine ⟨trivial,fun _=>⟨trivial,rfl⟩,fun hg=>?_⟩
 have hsh:=great_short hg
 have hd:=zep x
 have e1:zbk ((zam x).1,(zbd x).1)=true:=by simp [zbk,zbd]
 have e2:((zam x).2==(zbd x).2)=true:=by simp [zbd]
 refine ⟨trivial,hsh,⟨hd.1,hd.1,hd.2⟩,fun _=>trivial,?_⟩
 rw [e1,e2];rfl
end Go.OrdS
