/-
  Chapter 10: the reference's Meets, Lack and Accept are the program's.
-/
import Derived.Test.YtdpfmofgibmifaaOrdP10
set_option linter.all false
set_option maxRecDepth 100000
set_option maxHeartbeats 4000000
set_option linter.unusedVariables false
namespace Go.Ord
open Go Go.Sx
theorem setsTo_len (n:Nat):(setsTo n).length=n:=by simp [setsTo]
theorem setsTo_drop {n:Nat} {s:Int} (h0:0<=s) (h:s<(n:Int)):(setsTo n).drop s.toNat=s::(setsTo n).drop (s+1).toNat:=by
 rw [drop_getD' (setsTo n) 0 s h0 (by rw [setsTo_len];exact h),setsTo_getD (by omega)]
 have:((s.toNat:Nat):Int)=s:=by omega
 rw [this]
theorem under_le {n:Nat} {X s:Int} (h:under n X) (h0:0<=s) (h1:s<=X):under n s:=⟨h0,by have:=h.2;omega⟩
theorem all_under {n:Nat} (p:Nat->Bool):((List.range n).all p=true)↔∀ k,k<n->p k=true:=by
 simp only [List.all_eq_true,List.mem_range]
theorem all_succ (p:Nat->Bool) (n:Nat):(List.range (n+1)).all p=((List.range n).all p&&p n):=by
 rw [List.range_succ,List.all_append]
 simp
theorem sub_all {n:Nat} {s t:Int} (hs:under n s) (ht:under n t):((List.range n).all fun k=>!hasB s (k:Nat)||hasB t (k:Nat))=subB s t:=by
 refine bool_ext ?_
 rw [sub_iff hs.1 ht.1,all_under]
 constructor
 ·intro h k hk
  rcases Nat.lt_or_ge k n with h1 | h1
  ·have:=h k h1
   rw [hk] at this
   simpa using this
  ·rw [under_bit hs h1] at hk;cases hk
 ·intro h k _
  cases hk:hasB s (k:Nat) with
  | false=>rfl
  | true=>rw [h k hk];rfl
theorem v29 (x:Case × (List Int) × Int) (hp:k29.pre x):V29 x:=by
 obtain ⟨c,asked,X⟩:=x
 obtain ⟨hc,hX⟩:CaseOk c asked∧under asked.length X:=hp
 have a8:asked.length<=8:=by have:=hc.mo.a8;simpa [caseM] using this
 have hXs:=zdH a8 hX
 have hX':=hXs
 simp only [smallSet] at hX'
 let G:Int->Bool:=fun s=>!subB s X||!decide (0<lackM (caseM c asked) s)
 have hG:meetsM (caseM c asked) X=(setsTo (X.toNat+1)).all G:=by
  simp only [meetsM,partsV,List.all_filter]
  rfl
 refine ⟨fun s=>0<=s∧s<=X+1∧meetsM (caseM c asked) X=((setsTo (X.toNat+1)).drop s.toNat).all G,fun s=>(X+1 - s).toNat,⟨by omega,by omega,hG⟩,?_⟩
 rintro s ⟨s1,s2,hs⟩
 refine ⟨fun hle=>?_,fun hle=>?_⟩
 ·have hle:s<=X:=of_decide_eq_true hle
  have hu:=under_le hX s1 hle
  have hus:=zdH a8 hu
  simp only [smallSet] at hus
  have ed:=setsTo_drop (n:=X.toNat+1) s1 (by omega)
  rw [ed,List.all_cons] at hs
  refine ⟨fun t=>0<=t.2∧t.2<=(asked.length:Int)∧t.1=(List.range t.2.toNat).all fun k=>!hasB s (k:Nat)||hasB X (k:Nat),fun t=>((asked.length:Int) - t.2).toNat,⟨by simp,by simp,rfl⟩,?_⟩
  rintro ⟨b,k⟩ ⟨k1,k2,e1⟩
  simp only at k1 k2 e1 ⊢
  subst e1
  refine ⟨fun hk=>?_,fun hk=>?_⟩
  ·have hk:=of_decide_eq_true hk
   have e:(k+1).toNat=k.toNat+1:=by omega
   have ek:((k.toNat:Nat):Int)=k:=by omega
   have ha:=all_succ (fun k=>!hasB s (k:Nat)||hasB X (k:Nat)) k.toNat
   rw [ek] at ha
   refine ⟨fun _=>⟨⟨s1,by simp only [topN];omega⟩,k1,by show k<=62;omega⟩,fun _=>⟨⟨hX.1,by simp only [topN];omega⟩,k1,by show k<=62;omega⟩,by simp only [Z.in64];omega,⟨by show 0<=k+1;omega,by show k+1<=_;omega,?_⟩,?_⟩
   ·show _=(List.range (k+1).toNat).all fun k=>!hasB s (k:Nat)||hasB X (k:Nat)
    rw [e,ha];rfl
   ·show ((asked.length:Int) - (k+1)).toNat<((asked.length:Int) - k).toNat
    omega
  ·have hk:=of_decide_eq_false hk
   have hkk:k.toNat=asked.length:=by omega
   rw [hkk,sub_all hu hX]
   refine ⟨fun _=>⟨hc,hu⟩,fun hb=>?_,fun hb=>⟨by simp only [Z.in64];omega,⟨by omega,by omega,?_⟩,by show (X+1 - (s+1)).toNat<(X+1 - s).toNat;omega⟩⟩
   ·have hb:(subB s X&&decide (0<lackM (caseM c asked) s))=true:=hb
    rw [Bool.and_eq_true] at hb
    show false=meetsM (caseM c asked) X
    rw [hs]
    show false=((!subB s X||!decide (0<lackM (caseM c asked) s))&&_)
    rw [hb.1,hb.2];rfl
   ·have hb:(subB s X&&decide (0<lackM (caseM c asked) s))=false:=hb
    have hg:G s=true:=by
     show (!subB s X||!decide (0<lackM (caseM c asked) s))=true
     rw [<-Bool.not_and,hb];rfl
    rw [hs,hg,Bool.true_and]
 ·have hle:¬ s<=X:=of_decide_eq_false hle
  show true=meetsM (caseM c asked) X
  rw [hs,List.drop_of_length_le (by rw [setsTo_len];omega)]
  rfl
theorem pow_nat (n:Nat):(2^n:Int)=((2^n:Nat):Int):=by simp
theorem parts_all {n:Nat}:partsV (allV n)=setsTo (2^n):=by
 have h1:(allV n).toNat+1=2^n:=by
  have:=Nat.pow_pos (n:=n) (show 0<2 by decide)
  simp only [allV]
  rw [pow_nat]
  omega
 have h2:(0:Int)<=allV n∧allV n<2^n:=by
  have:=Nat.pow_pos (n:=n) (show 0<2 by decide)
  simp only [allV]
  rw [pow_nat]
  omega
 rw [partsV,h1,List.filter_eq_self]
 intro y hy
 simp only [setsTo,List.mem_map,List.mem_range] at hy
 obtain ⟨m,hm,rfl⟩:=hy
 have hu:under n (m:Int):=⟨by omega,by rw [pow_nat];omega⟩
 rw [sub_iff (by omega) h2.1]
 intro k hk
 have hkn:k<n:=by
  refine Classical.byContradiction fun hn=>?_
  rw [under_bit hu (by omega)] at hk;cases hk
 have e:(allV n).toNat=2^n - 1:=by omega
 simp only [hasB,e,Int.toNat_natCast]
 rw [Nat.testBit_two_pow_sub_one]
 exact decide_eq_true hkn
theorem worse_or (n m a b:Int):(decide (m<n)||((n==m)&&decide (a<b)))=cond (!(n==m)) (decide (m<n)) (decide (a<b)):=by
 by_cases h:n=m
 ·subst h
  rw [beq_self_eq_true]
  simp
 ·rw [beq_eq_false_iff_ne.2 h]
  simp
theorem v44 (x:Case × List Int) (hp:k44.pre x):V44 x:=by
 obtain ⟨c,asked⟩:=x
 have hc:CaseOk c asked:=hp
 have a8:asked.length<=8:=by have:=hc.mo.a8;simpa [caseM] using this
 have hpw:(2:Nat)^asked.length<=2^8:=Nat.pow_le_pow_right (by decide) a8
 have hpi:(2^(asked.length:Int).toNat:Int)=((2^asked.length:Nat):Int):=by rw [Int.toNat_natCast];exact pow_nat _
 obtain ⟨N,hN⟩:∃ N,N=2^asked.length:=⟨_,rfl⟩
 rw [<-hN] at hpw hpi
 have ppre:zbF (asked.length:Int):=⟨by omega,by omega⟩
 let st:(Int × Int)->Int->Int × Int:=fun b y=>cond (worseB (y,lackM (caseM c asked) y) b) (y,lackM (caseM c asked) y) b
 refine ⟨fun s=>0<=s.2.2∧s.2.2<=(N:Int)∧smallSet s.1∧mostV (lackM (caseM c asked)) (setsTo N)=((setsTo N).drop s.2.2.toNat).foldl st (s.1,s.2.1),fun s=>((N:Int) - s.2.2).toNat,⟨by simp,by simp,⟨by simp,by simp⟩,rfl⟩,?_⟩
 rintro ⟨b,m,s⟩ ⟨s1,s2,hb,hs⟩
 simp only at s1 s2 hb hs ⊢
 have epw:zak (asked.length:Int)=(N:Int):=hpi
 refine ⟨ppre,fun hlt=>?_,fun hlt=>?_⟩
 ·have hlt:s<zak (asked.length:Int):=of_decide_eq_true hlt
  rw [epw] at hlt
  have hu:under asked.length s:=⟨s1,by rw [pow_nat,<-hN];exact hlt⟩
  have hus:=zdH a8 hu
  have ed:=setsTo_drop (n:=N) s1 hlt
  rw [ed,List.foldl_cons] at hs
  have bsm:=hb
  have usm:=hus
  simp only [smallSet] at bsm usm
  have hw:=worse_or (lackM (caseM c asked) s) m (sizeV s) (sizeV b)
  refine ⟨⟨hc,hu⟩,fun _=>⟨s1,by simp only [topN];omega⟩,fun _=>⟨bsm.1,by simp only [topN];omega⟩,fun hh=>⟨by simp only [Z.in64];omega,⟨by show 0<=s+1;omega,by show s+1<=_;omega,hus,?_⟩,?_⟩,fun hh=>⟨by simp only [Z.in64];omega,⟨by show 0<=s+1;omega,by show s+1<=_;omega,hb,?_⟩,?_⟩⟩
  ·have hh:(decide (m<lackM (caseM c asked) s)||((lackM (caseM c asked) s==m)&&decide (sizeV s<sizeV b)))=true:=hh
   rw [hw] at hh
   have e:st (b,m) s=(s,lackM (caseM c asked) s):=by
    show cond (worseB _ _) _ _=_
    rw [worseB,hh];rfl
   rw [e] at hs
   exact hs
  ·show ((N:Int) - (s+1)).toNat<((N:Int) - s).toNat
   omega
  ·have hh:(decide (m<lackM (caseM c asked) s)||((lackM (caseM c asked) s==m)&&decide (sizeV s<sizeV b)))=false:=hh
   rw [hw] at hh
   have e:st (b,m) s=(b,m):=by
    show cond (worseB _ _) _ _=_
    rw [worseB,hh];rfl
   rw [e] at hs
   exact hs
  ·show ((N:Int) - (s+1)).toNat<((N:Int) - s).toNat
   omega
 ·have hlt:¬ s<zak (asked.length:Int):=of_decide_eq_false hlt
  rw [epw] at hlt
  rw [List.drop_of_length_le (by rw [setsTo_len];omega)] at hs
  show (b,m)=mostV (lackM (caseM c asked)) (setsTo (2^asked.length))
  rw [<-hN,hs];rfl
theorem size_zero:sizeV 0=0:=by decide
theorem size_nn (x:Int):0<=sizeV x:=Int.natCast_nonneg _
structure Most (L:Int->Int) (l:List Int) (b:Int × Int):Prop where
 nn:0<=b.2
 zero:b.2=0->b=(0,0)
 val:b≠(0,0)->b.1∈l∧L b.1=b.2
 max:∀ x∈l,L x<=b.2
 small:∀ x∈l,L x=b.2->0<b.2->sizeV b.1<=sizeV x
theorem most_fold (L:Int->Int):∀ (l p:List Int) (b:Int × Int),Most L p b->Most L (p++l) (l.foldl (fun b x=>cond (worseB (x,L x) b) (x,L x) b) b)
 | [],p,b,h=>by rw [List.append_nil];exact h
 | y::l,p,b,h=>by
  rw [List.foldl_cons]
  have key:Most L (p++[y]) (cond (worseB (y,L y) b) (y,L y) b):=by
   cases hw:worseB (y,L y) b with
   | true =>
    rw [cond_true]
    have hw:cond (!(L y==b.2)) (decide (b.2<L y)) (decide (sizeV y<sizeV b.1))=true:=hw
    have hcase:b.2<L y∨(L y=b.2∧sizeV y<sizeV b.1):=by
     by_cases e:L y=b.2
     ·rw [beq_iff_eq.2 e] at hw
      exact .inr ⟨e,of_decide_eq_true hw⟩
     ·rw [beq_eq_false_iff_ne.2 e] at hw
      exact .inl (of_decide_eq_true hw)
    have hpos:0<L y:=by
     rcases hcase with h1 | ⟨h1,h2⟩
     ·have:=h.nn;omega
     ·have:=h.nn
      rcases Int.lt_or_eq_of_le this with h3 | h3
      ·omega
      ·rw [h.zero h3.symm] at h2
       have:=size_nn y
       rw [size_zero] at h2;omega
    refine ⟨Int.le_of_lt hpos,fun e=>absurd e (by simp only;omega),fun _=>⟨by simp,rfl⟩,fun x hx=>?_,fun x hx he _=>?_⟩
    ·simp only
     rcases List.mem_append.1 hx with hx | hx
     ·have:=h.max x hx;omega
     ·rw [List.mem_singleton.1 hx];exact Int.le_refl _
    ·simp only at he ⊢
     rcases List.mem_append.1 hx with hx | hx
     ·have h1:=h.max x hx
      rcases hcase with h2 | ⟨h2,h3⟩
      ·omega
      ·have:=h.small x hx (by omega) (by omega)
       omega
     ·rw [List.mem_singleton.1 hx];exact Int.le_refl _
   | false =>
    rw [cond_false]
    have hw:cond (!(L y==b.2)) (decide (b.2<L y)) (decide (sizeV y<sizeV b.1))=false:=hw
    have hcase:L y<=b.2∧(L y=b.2->sizeV b.1<=sizeV y):=by
     by_cases e:L y=b.2
     ·rw [beq_iff_eq.2 e] at hw
      have:=of_decide_eq_false hw
      exact ⟨by omega,fun _=>by omega⟩
     ·rw [beq_eq_false_iff_ne.2 e] at hw
      have:=of_decide_eq_false hw
      exact ⟨by omega,fun e'=>absurd e' e⟩
    refine ⟨h.nn,h.zero,fun hb=>⟨List.mem_append.2 (.inl (h.val hb).1),(h.val hb).2⟩,fun x hx=>?_,fun x hx he hp=>?_⟩
    ·rcases List.mem_append.1 hx with hx | hx
     ·exact h.max x hx
     ·rw [List.mem_singleton.1 hx];exact hcase.1
    ·rcases List.mem_append.1 hx with hx | hx
     ·exact h.small x hx he hp
     ·rw [List.mem_singleton.1 hx] at he ⊢;exact hcase.2 he
  have:=most_fold L l (p++[y]) _ key
  rwa [List.append_assoc] at this
theorem most_spec (L:Int->Int) (l:List Int):Most L l (mostV L l):=by
 have:=most_fold L l [] (0,0) ⟨Int.le_refl _,fun _=>rfl,fun h=>absurd rfl h,fun x hx=>(by cases hx),fun x hx=>(by cases hx)⟩
 exact this
theorem asked_len (x:Sale):(askedV x).length=x.2.length:=by simp [askedV]
theorem v20 (x:Sale) (hp:k20.pre x):V20 x:=by
 have hsh:short x:=hp
 refine ⟨hsh,fun h=>?_,fun h=>?_⟩
 ·have h:saleB x=false:=by simpa using (show (!saleB x)=true from h)
  show _=zaf x
  rw [zaf,h];rfl
 have h:saleB x=true:=by simpa using (show (!saleB x)=false from h)
 have S:=zbN.1 h
 have o8:=S.o8
 have eA:zaf x=((acceptV (priceV x.2) (meetsM (worstM x)) (partsV (allV x.2.length))).1,(acceptV (priceV x.2) (meetsM (worstM x)) (partsV (allV x.2.length))).2,0):=by rw [zaf,h];rfl
 rw [parts_all] at eA
 obtain ⟨N,hN⟩:∃ N,N=2^x.2.length:=⟨_,rfl⟩
 rw [<-hN] at eA
 have hpw:(2:Nat)^x.2.length<=2^8:=Nat.pow_le_pow_right (by decide) o8
 rw [<-hN] at hpw
 have al:(askedV x).length=x.2.length:=asked_len x
 have epw:zak ((askedV x).length:Int)=(N:Int):=by
  show (2^((askedV x).length:Int).toNat:Int)=_
  rw [Int.toNat_natCast,al,pow_nat,hN]
 have hC:=worstC_ok h
 let st:(Int × Int)->Int->Int × Int:=fun b y=>cond (decide (b.2<priceV x.2 y)&&meetsM (worstM x) y) (y,priceV x.2 y) b
 have prices:∀ a∈x.2.map (fun o:Order=>o.2.2.2),amount a:=by
  intro a ha
  obtain ⟨o,ho,rfl⟩:=List.mem_map.1 ha
  have:=zdK.1 (S.ord o ho)
  exact ⟨this.2.2.2.1,by have:=this.2.2.2.2;simp only [topN];omega⟩
 have pl:(x.2.map (fun o:Order=>o.2.2.2)).length=x.2.length:=by simp
 refine ⟨h,hsh,fun s=>0<=s.2.2∧s.2.2<=(N:Int)∧acceptV (priceV x.2) (meetsM (worstM x)) (setsTo N)=((setsTo N).drop s.2.2.toNat).foldl st (s.1,s.2.1),fun s=>((N:Int) - s.2.2).toNat,⟨by simp,by simp,rfl⟩,?_⟩
 rintro ⟨b,m,s⟩ ⟨s1,s2,hs⟩
 simp only at s1 s2 hs ⊢
 refine ⟨⟨by omega,by show ((askedV x).length:Int)<=62;omega⟩,fun hlt=>?_,fun hlt=>?_⟩
 ·have hlt:s<zak ((askedV x).length:Int):=of_decide_eq_true hlt
  rw [epw] at hlt
  have hu:under (askedV x).length s:=⟨s1,by rw [pow_nat,al,<-hN];exact hlt⟩
  have hus:=zdH (by omega) hu
  simp only [smallSet] at hus
  have ed:=setsTo_drop (n:=N) s1 hlt
  rw [ed,List.foldl_cons] at hs
  refine ⟨fun t=>0<=t.2∧t.2<=(x.2.length:Int)∧t.1=selS (fun k=>hasB s (k:Nat)) ((x.2.map fun o=>o.2.2.2).take t.2.toNat) 0,fun t=>((x.2.length:Int) - t.2).toNat,⟨by simp,by simp,rfl⟩,?_⟩
  rintro ⟨a,k⟩ ⟨k1,k2,e1⟩
  simp only at k1 k2 e1 ⊢
  subst e1
  have bk:=selS_tb (p:=fun k=>hasB s (k:Nat)) (by omega) prices k
  refine ⟨fun hk=>?_,fun hk=>?_⟩
  ·have hk:k<((askedV x).length:Int):=of_decide_eq_true hk
   rw [al] at hk
   have es:=selS_step (fun k=>hasB s (k:Nat)) (x.2.map fun o:Order=>o.2.2.2) k k1 (by rw [pl];exact hk)
   have ek:((k.toNat:Nat):Int)=k:=by omega
   have eg:(x.2.map fun o:Order=>o.2.2.2).getD k.toNat 0=(x.2.getD k.toNat (0,0,0,0)).2.2.2:=by
    have:=map_getD (fun i=>i) 0 rfl (x.2.map fun o:Order=>o.2.2.2) k.toNat
    simp only [List.getD,List.getElem?_map]
    cases x.2[k.toNat]?<;>rfl
   have hak:=prices _ (zbK (x.2.map fun o:Order=>o.2.2.2) 0 k k1 (by rw [pl];exact hk))
   rw [eg] at hak es
   simp only [amount,topN] at hak bk
   rw [ek] at es
   refine ⟨⟨⟨s1,by simp only [topN];omega⟩,k1,by show k<=62;omega⟩,fun hb=>⟨⟨k1,hk⟩,by simp only [Z.in64];omega,by simp only [Z.in64];omega,?_,⟨by show 0<=k+1;omega,by show k+1<=_;omega,?_⟩,?_⟩,fun hb=>⟨by simp only [Z.in64];omega,?_,⟨by show 0<=k+1;omega,by show k+1<=_;omega,?_⟩,?_⟩⟩
   all_goals first | trivial | rfl | skip
   ·have hb:hasB s k=true:=hb
    show _=selS _ (List.take (k+1).toNat _) 0
    rw [es,hb];rfl
   ·show ((x.2.length:Int) - (k+1)).toNat<((x.2.length:Int) - k).toNat
    omega
   ·have hb:hasB s k=false:=hb
    show _=selS _ (List.take (k+1).toNat _) 0
    rw [es,hb];simp
   ·show ((x.2.length:Int) - (k+1)).toNat<((x.2.length:Int) - k).toNat
    omega
  ·have hk:¬ k<((askedV x).length:Int):=of_decide_eq_false hk
   rw [al] at hk
   rw [List.take_of_length_le (by rw [pl];omega)]
   have emm:zb (zau x,zal x,s)=meetsM (worstM x) s:=by
    show meetsM (caseM (worstC x) (askedV x)) s=_
    rw [caseM_worst]
   refine ⟨fun _=>⟨hC,hu⟩,fun hh=>⟨by simp only [Z.in64];omega,?_,⟨by show 0<=s+1;omega,by show s+1<=_;omega,?_⟩,?_⟩,fun hh=>⟨by simp only [Z.in64];omega,?_,⟨by show 0<=s+1;omega,by show s+1<=_;omega,?_⟩,?_⟩⟩
   all_goals first | trivial | rfl | skip
   ·rw [emm] at hh
    have hh:(decide (m<priceV x.2 s)&&meetsM (worstM x) s)=true:=hh
    have e:st (b,m) s=(s,priceV x.2 s):=by
     show cond (decide (m<priceV x.2 s)&&meetsM (worstM x) s) _ _=_
     rw [hh];rfl
    rw [e] at hs
    exact hs
   ·show ((N:Int) - (s+1)).toNat<((N:Int) - s).toNat
    omega
   ·rw [emm] at hh
    have hh:(decide (m<priceV x.2 s)&&meetsM (worstM x) s)=false:=hh
    have e:st (b,m) s=(b,m):=by
     show cond (decide (m<priceV x.2 s)&&meetsM (worstM x) s) _ _=_
     rw [hh];rfl
    rw [e] at hs
    exact hs
   ·show ((N:Int) - (s+1)).toNat<((N:Int) - s).toNat
    omega
 ·have hlt:¬ s<zak ((askedV x).length:Int):=of_decide_eq_false hlt
  rw [epw] at hlt
  rw [List.drop_of_length_le (by rw [setsTo_len];omega)] at hs
  show (b,m,(0:Int))=zaf x
  rw [eA,hs];rfl
theorem v13 (x:Sale × Int) (_:k13.pre x):V13 x:=by
 refine ⟨fun h=>?_,rfl⟩
 rw [Bool.or_eq_false_iff] at h
 have h1:=of_decide_eq_false h.1
 have h2:=of_decide_eq_false h.2
 exact ⟨by omega,by omega⟩
theorem great_short {x:Sale} {n:Int} (h:zbn (x,n)=false):short x:=by
 simp only [zbn,Bool.or_eq_false_iff] at h
 have h1:=of_decide_eq_false h.1.1
 have h2:=of_decide_eq_false h.1.2
 exact ⟨by omega,by omega⟩
theorem v3 (x:Sale) (_:k3.pre x):V3 x:=by
 refine ⟨trivial,fun _=>⟨trivial,rfl⟩,fun h=>?_⟩
 have hs:=great_short h
 refine ⟨trivial,hs,trivial,hs,trivial,hs,fun _=>trivial,?_⟩
 show (_:Bool)=true
 simp [zbs,zcf,zbi,zbo]
end Go.Ord
