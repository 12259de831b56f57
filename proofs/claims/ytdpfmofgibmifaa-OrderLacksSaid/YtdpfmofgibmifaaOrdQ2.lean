/-
  Chapter 10: OrderLacks.
-/
import Derived.Test.YtdpfmofgibmifaaOrdR1
set_option linter.all false
set_option maxRecDepth 100000
set_option maxHeartbeats 4000000
set_option linter.unusedVariables false
namespace Go.Ord
open Go Go.Sx
theorem most_first (L:Int→Int):∀ (l p:List Int) (b:Int × Int),(p++l).Pairwise (·≤·)→Most L p b→(∀ x∈p,L x=b.2→0<b.2→sizeV x=sizeV b.1→b.1≤x) →
  ∀ x∈p++l,L x=(l.foldl (fun b x=>cond (worseB (x,L x) b) (x,L x) b) b).2→0<(l.foldl (fun b x=>cond (worseB (x,L x) b) (x,L x) b) b).2→sizeV x=sizeV (l.foldl (fun b x=>cond (worseB (x,L x) b) (x,L x) b) b).1→(l.foldl (fun b x=>cond (worseB (x,L x) b) (x,L x) b) b).1≤x
 | [],p,b,_,_,hf=>by rw [List.append_nil];exact hf
 | y::l,p,b,hs,h,hf=>by
  rw [List.foldl_cons]
  have key:=most_fold L [y] p b h
  rw [List.foldl_cons,List.foldl_nil] at key
  have hf':∀ x∈p++[y],L x=(cond (worseB (y,L y) b) (y,L y) b).2→0<(cond (worseB (y,L y) b) (y,L y) b).2→sizeV x=sizeV (cond (worseB (y,L y) b) (y,L y) b).1→(cond (worseB (y,L y) b) (y,L y) b).1≤x:=by
   cases hw:worseB (y,L y) b with
   | true =>
    rw [cond_true]
    have hw:cond (!(L y==b.2)) (decide (b.2<L y)) (decide (sizeV y<sizeV b.1))=true:=hw
    intro x hx he hp hz
    simp only at he hp hz ⊢
    rcases List.mem_append.1 hx with hx | hx
    ·have h1:=h.max x hx
     by_cases e:L y=b.2
     ·rw [beq_iff_eq.2 e] at hw
      have hw:=of_decide_eq_true hw
      have:=h.small x hx (by omega) (by omega)
      omega
     ·rw [beq_eq_false_iff_ne.2 e] at hw
      have hw:=of_decide_eq_true hw
      omega
    ·rw [List.mem_singleton.1 hx];exact Int.le_refl _
   | false =>
    rw [cond_false]
    intro x hx he hp hz
    rcases List.mem_append.1 hx with hx | hx
    ·exact hf x hx he hp hz
    ·rw [List.mem_singleton.1 hx]
     have hb:=(h.val (fun e=>by rw [e] at hp;exact absurd hp (by decide))).1
     exact (List.pairwise_append.1 hs).2.2 b.1 hb y List.mem_cons_self
  have:=most_first L l (p++[y]) _ (by rwa [List.append_assoc]) key hf'
  rwa [List.append_assoc] at this
theorem most_least (L:Int→Int) (n:Nat):∀ x∈setsTo n,L x=(mostV L (setsTo n)).2→0<(mostV L (setsTo n)).2→sizeV x=sizeV (mostV L (setsTo n)).1→(mostV L (setsTo n)).1≤x :=
 most_first L (setsTo n) [] (0,0) (setsTo_sorted n) ⟨Int.le_refl _,fun _=>rfl,fun h=>absurd rfl h,fun x hx=>(by cases hx),fun x hx=>(by cases hx)⟩ (fun x hx=>(by cases hx))
theorem lack_spec {x:Sale} (h:saleB x=true):(mostV (lackM (worstM x)) (setsTo (2^x.2.length))=(0,0)∧order_Lack x=(0,0,4)) ∨
  (mostV (lackM (worstM x)) (setsTo (2^x.2.length))≠(0,0)∧order_Lack x=((mostV (lackM (worstM x)) (setsTo (2^x.2.length))).1,(mostV (lackM (worstM x)) (setsTo (2^x.2.length))).2,0)):=by
 have eL:order_Lack x=cond (mostV (lackM (worstM x)) (partsV (allV x.2.length))==(0,0)) (0,0,4) ((mostV (lackM (worstM x)) (partsV (allV x.2.length))).1,(mostV (lackM (worstM x)) (partsV (allV x.2.length))).2,0):=by rw [order_Lack,h];rfl
 rw [parts_all] at eL
 by_cases e:mostV (lackM (worstM x)) (setsTo (2^x.2.length))=(0,0)
 ·left
  exact ⟨e,by rw [eL,e];rfl⟩
 ·right
  exact ⟨e,by rw [eL,beq_eq_false_iff_ne.2 e];rfl⟩
theorem meets_all_iff {m:Market} {n:Nat}:meetsM m (allV n)=true↔(mostV (lackM m) (setsTo (2^n))).2=0:=by
 have hm:=most_spec (lackM m) (setsTo (2^n))
 rw [meets_iff,parts_all]
 constructor
 ·intro h
  by_cases e:mostV (lackM m) (setsTo (2^n))=(0,0)
  ·rw [e]
  ·have h1:=hm.val e
   have h2:=h _ h1.1
   have h3:=hm.nn
   omega
 ·intro h y hy
  have:=hm.max y hy
  omega
def richS (s:Sale) (n:Int):Sale:=(s.1++[(255,(n,n),0,0)],s.2)
theorem has_255 {k:Int} (h0:0≤k) (h7:k≤7):hasB 255 k=true:=by
 obtain ⟨n,rfl⟩:=Int.eq_ofNat_of_zero_le h0
 have key:∀ n,n<8→hasB 255 ((n:Nat):Int)=true:=by decide
 exact key n (by omega)
theorem rich_lack {s:Sale} (h:saleB s=true) {n:Int} {X:Int} (hX:under s.2.length X) (hX0:X≠0):lackM (worstM (richS s n)) X=lackM (worstM s) X - n:=by
 have S:=sale_iff.1 h
 have e1:(worstM (richS s n)).1=(worstM s).1:=rfl
 have e2:(worstM (richS s n)).2.1=(worstM s).2.1++[n]:=by simp [worstM,marketV,richS,worstMany]
 have e3:(worstM (richS s n)).2.2=(worstM s).2.2++[setOf (s.2.map (canB 255 0))]:=by simp [worstM,marketV,richS,worstReady]
 have l3:(worstM s).2.2.length=(worstM s).2.1.length:=by simp [worstM,marketV]
 have ht:touchB (setOf (s.2.map (canB 255 0))) X=true:=by
  obtain ⟨m,rfl,hm⟩:=under_nat hX
  have:∃ k,m.testBit k=true:=by
   refine Classical.byContradiction fun hn=>hX0 ?_
   have:m=0:=Nat.eq_of_testBit_eq fun k=>by
    rw [Nat.zero_testBit]
    cases hk:m.testBit k with
    | false=>rfl
    | true=>exact absurd ⟨k,hk⟩ hn
   rw [this];rfl
  obtain ⟨k,hk⟩:=this
  have hk':hasB (m:Int) (k:Nat)=true:=by simp only [hasB,Int.toNat_natCast];exact hk
  have hkn:k<s.2.length:=by
   refine Classical.byContradiction fun hn=>?_
   rw [under_bit hX (by omega)] at hk';cases hk'
  refine touch_iff.2 ⟨k,?_,hk'⟩
  rw [has_setOf]
  have e:(s.2.map (canB 255 0)).getD k false=canB 255 0 (s.2.getD k (0,0,0,0)):=by simp [List.getD,hkn]
  have ho:=order_iff.1 (S.ord _ (getD_mem s.2 (0,0,0,0) k hkn))
  rw [e]
  simp only [canB,has_255 ho.1.1 ho.1.2,Bool.true_and,decide_eq_true_eq]
  exact ho.2.2.1.1
 have e4:selS (fun i=>touchB ((worstM (richS s n)).2.2.getD i 0) X) ((worstM s).2.1++[n]) 0=selS (fun i=>touchB ((worstM s).2.2.getD i 0) X) (worstM s).2.1 0+n:=by
  rw [selS_app]
  have h1:selS (fun i=>touchB ((worstM (richS s n)).2.2.getD i 0) X) (worstM s).2.1 0=selS (fun i=>touchB ((worstM s).2.2.getD i 0) X) (worstM s).2.1 0:=by
   refine selS_congr fun i hi=>?_
   rw [e3]
   simp only [List.getD]
   rw [List.getElem?_append_left (by omega)]
  have h2:touchB ((worstM (richS s n)).2.2.getD (0+(worstM s).2.1.length) 0) X=true:=by
   rw [e3,Nat.zero_add,←l3]
   simp only [List.getD]
   rw [List.getElem?_append_right (Nat.le_refl _)]
   simpa using ht
  rw [h1,h2,cond_true]
 simp only [lackM]
 rw [e1,e2,e4]
 omega
theorem v8 (x:Sale × Int) (hp:k8.pre x):V8 x:=by
 obtain ⟨⟨sup,ord⟩,by_⟩:=x
 obtain ⟨hb0,hb1⟩:0≤by_∧by_<256:=hp
 refine ⟨trivial,fun hg=>?_,fun _=>⟨trivial,rfl⟩,fun hg=>?_⟩
 ·rw [Bool.or_eq_false_iff] at hg
  exact great_short hg.1
 rw [Bool.or_eq_false_iff,Bool.or_eq_false_iff] at hg
 obtain ⟨⟨hg1,hg2⟩,hg3⟩:=hg
 have h:saleB (sup,ord)=true:=by simpa using (show (!saleB (sup,ord))=false from hg3)
 have hs7:¬ (8:Int)≤(sup.length:Int):=of_decide_eq_false hg2
 have S:=sale_iff.1 h
 have ho8:ord.length≤8:=S.o8
 have hsh:=short_of h
 have hC:=worstC_ok h
 have al:(askedV (sup,ord)).length=ord.length:=asked_len (sup,ord)
 have hpw:=Nat.pow_pos (n:=ord.length) (show 0<2 by decide)
 have hpi:(1*2^(Int.toNat (ord.length:Int)):Int)=((2^ord.length:Nat):Int):=by rw [Int.toNat_natCast,Int.one_mul,pow_nat]
 have hshl:=shl_ok (k:=(ord.length:Int)) (by omega) (by omega)
 obtain ⟨N,hN⟩:∃ N,N=2^ord.length:=⟨_,rfl⟩
 obtain ⟨o,ho⟩:∃ o,o=Int.tmod by_ (1*2^(Int.toNat (ord.length:Int))):=⟨_,rfl⟩
 have hor:0≤o∧o<(N:Int):=by
  rw [ho,hpi,←hN,Int.tmod_eq_emod_of_nonneg hb0]
  exact ⟨Int.emod_nonneg _ (by omega),Int.emod_lt_of_pos _ (by omega)⟩
 have hou:under (askedV (sup,ord)).length o:=⟨hor.1,by rw [al,pow_nat,←hN];exact hor.2⟩
 have hom:o∈setsTo (2^ord.length):=setsTo_mem.2 ⟨hor.1,by rw [←hN];exact hor.2⟩
 have eLk:∀ X,ref10u_Lacks (ref10u_Worst (sup,ord),ref10u_Asked (sup,ord),X)=lackM (worstM (sup,ord)) X:=by
  intro X
  show lackM (caseM (worstC (sup,ord)) (askedV (sup,ord))) X=_
  rw [caseM_worst]
 have hm:=most_spec (lackM (worstM (sup,ord))) (setsTo (2^ord.length))
 have hfirst:=most_least (lackM (worstM (sup,ord))) (2^ord.length)
 obtain ⟨hm0,hmc⟩:=meets_ok h
 have hmeet:(order_Meets (sup,ord)).1=2↔(mostV (lackM (worstM (sup,ord))) (setsTo (2^ord.length))).2=0:=by
  rw [←meets_all_iff]
  rcases hmc with ⟨h1,h2⟩ | ⟨h1,h2,_⟩ | ⟨h1,h2,_⟩
  ·exact ⟨fun _=>h2,fun _=>h1⟩
  ·exact ⟨fun e=>by omega,fun e=>by rw [show meetsM (worstM (sup,ord)) (allV ord.length)=false from h2] at e;cases e⟩
  ·exact ⟨fun e=>by omega,fun e=>by rw [show meetsM (worstM (sup,ord)) (allV ord.length)=false from h2] at e;cases e⟩
 have o256:=under_small (by rw [al];exact ho8) hou
 simp only [smallSet] at o256
 have hLb:∀ X,lackM (worstM (sup,ord)) X≤8*topN:=by
  intro X
  have W:=worst_ok h
  have h1:=selS_bd (p:=fun k=>hasB X (k:Nat)) (l:=(worstM (sup,ord)).1) (k:=0) W.asked
  have h2:=selS_bd (p:=fun i=>touchB ((worstM (sup,ord)).2.2.getD i 0) X) (l:=(worstM (sup,ord)).2.1) (k:=0) W.many
  have:=W.a8
  simp only [lackM,topN] at *
  omega
 refine ⟨trivial,trivial,fun hb=>?_,fun _=>?_⟩
 ·exfalso
  rcases lack_spec h with ⟨e1,e2⟩ | ⟨e1,e2⟩
  ·have e1:mostV (lackM (worstM (sup,ord))) (setsTo (2^ord.length))=(0,0):=e1
   have h2:(order_Meets (sup,ord)).1=2:=hmeet.2 (by rw [e1])
   rw [e2,hm0,h2] at hb
   cases hb
  ·have e1:mostV (lackM (worstM (sup,ord))) (setsTo (2^ord.length))≠(0,0):=e1
   have h2:(order_Meets (sup,ord)).1≠2:=fun e=>e1 (hm.zero (hmeet.1 e))
   rw [e2,hm0,beq_eq_false_iff_ne.2 h2] at hb
   cases hb
 rw [←ho]
 refine ⟨h,hsh,⟨⟨by omega,by show (ord.length:Int)<64;omega⟩,hshl.2⟩,by show (1*2^(Int.toNat (ord.length:Int)):Int)≠0;rw [hpi];omega,⟨hC,hou⟩,fun he=>?_,fun he=>?_⟩
 ·rcases lack_spec h with ⟨e1,e2⟩ | ⟨e1,e2⟩
  ·have e1:mostV (lackM (worstM (sup,ord))) (setsTo (2^ord.length))=(0,0):=e1
   have:=hm.max o hom
   rw [e1] at this
   refine ⟨fun _=>trivial,?_⟩
   rw [eLk,decide_eq_true this];rfl
  ·rw [e2] at he;cases he
 rcases lack_spec h with ⟨e1,e2⟩ | ⟨e1,e2⟩
 ·rw [e2] at he;cases he
 have e1:mostV (lackM (worstM (sup,ord))) (setsTo (2^ord.length))≠(0,0):=e1
 obtain ⟨X,hX⟩:∃ X,X=(mostV (lackM (worstM (sup,ord))) (setsTo (2^ord.length))).1:=⟨_,rfl⟩
 obtain ⟨n,hn⟩:∃ n,n=(mostV (lackM (worstM (sup,ord))) (setsTo (2^ord.length))).2:=⟨_,rfl⟩
 have e2:order_Lack (sup,ord)=(X,n,0):=by rw [hX,hn];exact e2
 have hval:=hm.val e1
 rw [←hX,←hn] at hval
 have hmax:=hm.max o hom
 rw [←hn] at hmax
 have hn1:0<n:=by
  have h1:=hm.nn
  rw [←hn] at h1
  rcases Int.lt_or_eq_of_le h1 with h2 | h2
  ·exact h2
  ·exact absurd (hm.zero (by rw [←hn,←h2])) e1
 have hXr:=setsTo_mem.1 hval.1
 have hX0:X≠0:=by
  intro e
  have:=hval.2
  rw [e,lack_empty] at this
  omega
 have hXu:under (askedV (sup,ord)).length X:=⟨hXr.1,by rw [al,pow_nat];exact hXr.2⟩
 have hXs:=under_small (by rw [al];exact ho8) hXu
 simp only [smallSet] at hXs
 have hn8:n≤8*topN:=by rw [←hval.2];exact hLb X
 rw [e2]
 refine ⟨fun _=>⟨⟨by omega,by show (ord.length:Int)<64;omega⟩,hshl.2⟩,fun _=>⟨hC,hXu⟩,fun hb=>?_,fun _=>⟨⟨hXs.1,by simp only [topN];omega⟩,⟨o256.1,by simp only [topN];omega⟩,fun hb=>?_,fun _=>⟨fun _=>⟨trivial,rfl⟩,fun hle=>?_⟩⟩⟩
 ·exfalso
  rw [eLk,eLk,hval.2] at hb
  have hb:((((decide (X<1)||decide (1*2^(Int.toNat (ord.length:Int))≤X))||decide (n<1))||(!(n==n)))||decide (n<lackM (worstM (sup,ord)) o))=true:=hb
  rw [decide_eq_false (by omega:¬ X<1),decide_eq_false (by rw [hpi];omega:¬ 1*2^(Int.toNat (ord.length:Int))≤X),decide_eq_false (by omega:¬ n<1),decide_eq_false (by omega:¬ n<lackM (worstM (sup,ord)) o),beq_self_eq_true] at hb
  cases hb
 ·exfalso
  rw [eLk] at hb
  have hb:((lackM (worstM (sup,ord)) o==n)&&(decide (sizeV o<sizeV X)||((sizeV o==sizeV X)&&decide (o<X))))=true:=hb
  simp only [Bool.and_eq_true,Bool.or_eq_true,beq_iff_eq,decide_eq_true_eq] at hb
  obtain ⟨hb1,hb2⟩:=hb
  have hsm:=hm.small o hom (by rw [←hn];exact hb1) (by rw [←hn];exact hn1)
  rw [←hX] at hsm
  rcases hb2 with hb2 | ⟨hb2,hb3⟩
  ·omega
  ·have:=hfirst o hom (by rw [←hn];exact hb1) (by rw [←hn];exact hn1) (by rw [←hX];exact hb2)
   rw [←hX] at this
   omega
 ·have hle:¬ (1048576:Int)<n:=of_decide_eq_false hle
  have er:((((List.replicate 0 (0,(0,0),0,0))++sup)++((List.replicate 1 (0,(0,0),0,0)).set 0 (255,(law10u_span (n,n)),0,0))),ord)=richS (sup,ord) n:=rfl
  have hR:saleB (richS (sup,ord) n)=true:=by
   refine sale_iff.2 ⟨by simp [richS];omega,S.o8,fun y hy=>?_,S.ord⟩
   rcases List.mem_append.1 hy with hy | hy
   ·exact S.sup y hy
   ·rw [List.mem_singleton.1 hy]
    refine supply_iff.2 ⟨⟨(by decide:(0:Int)≤255),(by decide:(255:Int)≤255)⟩,⟨by show 0≤n;omega,Int.le_refl _,by show n≤topN;simp only [topN];omega⟩,(by decide:(0:Int)≤0),(by decide:(0:Int)≤0),(by decide:(0:Int)≤topN)⟩
  have hrm:order_Meets (richS (sup,ord) n)=(2,0):=by
   obtain ⟨r0,r1⟩:=meets_ok hR
   have hmt:meetsM (worstM (richS (sup,ord) n)) (allV ord.length)=true:=by
    rw [meets_iff,parts_all]
    intro y hy
    by_cases hy0:y=0
    ·rw [hy0,lack_empty];exact Int.le_refl _
    ·have hyr:=setsTo_mem.1 hy
     rw [rich_lack h ⟨hyr.1,by rw [pow_nat];exact hyr.2⟩ hy0]
     have:=hm.max y hy
     rw [←hn] at this
     omega
   have hmt:meetsM (worstM (richS (sup,ord) n)) (allV (richS (sup,ord) n).2.length)=true:=hmt
   rcases r1 with ⟨h1,_⟩ | ⟨_,h2,_⟩ | ⟨_,h2,_⟩
   ·exact Prod.ext h1 r0
   ·rw [hmt] at h2;cases h2
   ·rw [hmt] at h2;cases h2
  refine ⟨rm5 (by simp;omega),trivial,rm5 (by simp;omega),trivial,fun _=>trivial,?_⟩
  show (((order_Meets (richS (sup,ord) n)).1==2)&&((order_Meets (richS (sup,ord) n)).2==0)&&true)=true
  rw [hrm];rfl
end Go.Ord
