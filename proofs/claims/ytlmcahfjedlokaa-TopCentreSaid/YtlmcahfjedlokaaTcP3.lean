/-
  Slat: the conditions, first part.
-/
import Derived.Test.YtlmcahfjedlokaaTcBP
import Derived.Test.YtlmcahfjedlokaaTcSpec3
set_option linter.all false
set_option maxRecDepth 100000
set_option maxHeartbeats 4000000
namespace Go.Tc
open Go Go.Sx
theorem spn3 (s:Span) (a b:Int):((decide (a≤s.1)&&decide (s.1≤s.2))&&decide (s.2≤b))=spanB s a b:=by
 unfold spanB
 rw [Bool.and_assoc]
theorem v20 (x:Int × Int × Int) (_:k20.pre x):V20 x:=rfl
theorem v19 (x:Span × Int × Int) (_:k19.pre x):V19 x:=spn3 _ _ _
theorem v8 (x:Slat) (_:k8.pre x):V8 x:=⟨trivial,fun _=>trivial,fun _=>trivial,fun _=>trivial,rfl⟩
theorem v7 (x:Jig) (_:k7.pre x):V7 x:=⟨trivial,fun _=>trivial,fun _=>trivial,fun _=>trivial,fun _=>trivial,fun _=>trivial,rfl⟩
theorem v24 (x:Int × Int × Int) (_:k24.pre x):V24 x:=rfl
theorem v36 (x:Span × Int × Int) (_:k36.pre x):V36 x:=spn3 _ _ _
theorem v39 (x:Slat) (_:k39.pre x):V39 x:=⟨trivial,fun _=>trivial,fun _=>trivial,fun _=>trivial,rfl⟩
theorem v38 (x:Slat) (_:k38.pre x):V38 x:=⟨trivial,rfl⟩
theorem v47 (x:(List Slat) × Fun Slat Bool) (h:k47.pre x):V47 x:=ixF_loop x.1 ((0,0),(0,0),(0,0),0,0) x.2 h.1 h.2
theorem v37 (x:(List Slat) × Fun Slat Bool) (h:k37.pre x):V37 x:=⟨h,any_ix _ _⟩
theorem v27 (x:(List Int) × Fun Int Bool) (h:k27.pre x):V27 x:=ixF_loop x.1 0 x.2 h.1 h.2
theorem v25 (x:(List Int) × Fun Int Bool) (h:k25.pre x):V25 x:=⟨h,any_ix _ _⟩
theorem v21 (x:Jig × List Slat) (h:k21.pre x):V21 x:=by
 have h:x.2.length≤big:=h
 refine ⟨trivial,fun _=>trivial,fun _=>trivial,fun _=>trivial,fun _=>trivial,fun _=>trivial,fun _=>⟨h,fun _ _=>trivial⟩,?_⟩
 show ((((((spanB x.1.1 0 500&&spanB x.1.2.1 1 5000)&&spanB x.1.2.2.1 (-500) 500)&&spanB x.1.2.2.2.1 (-500) 500)&&inB x.1.2.2.2.2.1 0 500)&&inB x.1.2.2.2.2.2 1 10)&&(!(x.2.any fun a=>!slatB a)))=slat_isJig x
 rw [any_not];rfl
theorem small_mul {s:Span} {n:Int} (hs:smallS 1000000 s) (hn:-10≤n∧n≤10):(-10000000≤n*s.1∧n*s.1≤10000000)∧-10000000≤n*s.2∧n*s.2≤10000000:=by
 obtain ⟨h1,h2⟩:=hs
 have key:∀ a:Int,-1000000≤a∧a≤1000000→-10000000≤n*a∧n*a≤10000000:=fun a ha=>by
  by_cases h0:0≤n
  ·have:=Int.mul_le_mul_of_nonneg_left ha.1 h0
   have:=Int.mul_le_mul_of_nonneg_left ha.2 h0
   omega
  ·have e:n*a=-((-n)*a):=by rw [Int.neg_mul,Int.neg_neg]
   have h0:0≤-n:=by omega
   have:=Int.mul_le_mul_of_nonneg_left ha.1 h0
   have:=Int.mul_le_mul_of_nonneg_left ha.2 h0
   generalize (-n)*a=m at *
   omega
 exact ⟨key _ h1,key _ h2⟩
theorem v43 (x:Span × Int) (h:k43.pre x):V43 x:=by
 obtain ⟨h1,h2⟩:smallS 1000000 x.1∧-10≤x.2∧x.2≤10:=h
 obtain ⟨m1,m2⟩:=small_mul h1 h2
 refine ⟨?_,?_,?_,?_,rfl⟩<;>(simp only [Z.in64];omega)
theorem v42 (x:List Span) (h:k42.pre x):V42 x:=by
 obtain ⟨h1,h2⟩:x.length≤10∧∀ s∈x,smallS 10000000 s:=h
 refine ⟨fun s=>∃ n:Nat,s.1=(n:Int)∧n≤x.length∧smallS (10000000*n) s.2∧(x.drop n).foldl plusS s.2=sumS x,fun s=>((x.length:Int) - s.1).toNat,⟨0,rfl,by omega,by simp [smallS],rfl⟩,?_⟩
 rintro ⟨_,a⟩ ⟨n,rfl,hn,ha,he⟩
 dsimp only at ha he ⊢
 rw [Int.toNat_natCast]
 refine ⟨fun hd=>?_,fun hd=>?_⟩
 ·have hd:(n:Int)<(x.length:Int):=of_decide_eq_true hd
  have hnl:n<x.length:=by omega
  have hs:=h2 _ (getD_mem x (0,0) n hnl)
  rw [List.drop_eq_getElem_cons hnl,List.foldl_cons] at he
  have hg:x[n]=x.getD n (0,0):=by simp [List.getD,hnl]
  rw [hg] at he
  simp only [smallS] at ha hs
  refine ⟨⟨by omega,hd⟩,by simp only [Z.in64];omega,by simp only [Z.in64];omega,by simp only [Z.in64];omega,⟨n+1,rfl,hnl,?_,he⟩,by omega⟩
  simp only [smallS]
  omega
 ·have hd:¬ (n:Int)<(x.length:Int):=of_decide_eq_false hd
  rw [List.drop_eq_nil_of_le (by omega)] at he
  exact he
theorem times_small {s:Span} {n:Int} (hs:smallS 1000000 s) (hn:-10≤n∧n≤10):smallS 10000000 (timesS s n):=by
 obtain ⟨m1,m2⟩:=small_mul hs hn
 unfold timesS smallS
 simp only
 omega
theorem smallS.mono {a b:Int} {s:Span} (h:smallS a s) (hab:a≤b):smallS b s:=by
 simp only [smallS] at *;omega
theorem v45 (x:Span × Span) (h:k45.pre x):V45 x:=by
 obtain ⟨h1,h2⟩:smallS 1000000 x.1∧smallS 1000000 x.2:=h
 refine ⟨⟨h2,(show (-10:Int)≤-1 by decide),(show (-1:Int)≤10 by decide)⟩,⟨(by show 2≤10;omega),fun s hs=>?_⟩,rfl⟩
 have hs:s∈[x.1,timesS x.2 (-1)]:=hs
 simp only [List.mem_cons,List.not_mem_nil,or_false] at hs
 rcases hs with rfl | rfl
 ·exact h1.mono (by decide)
 ·exact times_small h2 (by decide)
theorem v44 (x:Span) (h:k44.pre x):V44 x:=by
 have h:smallS 10000000 x:=h
 simp only [smallS] at h
 exact ⟨by simp only [Z.in64];omega,rfl⟩
theorem v50 (x:Span × Span) (_:k50.pre x):V50 x:=rfl
theorem v52 (x:Span × Span) (_:k52.pre x):V52 x:=rfl
theorem v53 (x:Span) (_:k53.pre x):V53 x:=rfl
theorem slat_smalls {s:Slat} (h:SlatIs s):(smallS 1000000 s.1∧smallS 1000000 s.2.1)∧smallS 1000000 s.2.2.1∧smallS 1000000 s.2.2.2:=by
 have h1:=h.t;have h2:=h.d;have h3:=h.s;have h4:=h.p
 simp only [smallS]
 omega
theorem jig_smalls {j:Jig} (h:JigIs j):(smallS 1000000 j.1∧smallS 1000000 j.2.1)∧smallS 1000000 j.2.2.1∧smallS 1000000 j.2.2.2.1:=by
 have h1:=h.g;have h2:=h.l;have h3:=h.s;have h4:=h.h
 simp only [smallS]
 omega
theorem v49 (x:Sand) (h:k49.pre x):V49 x:=by
 have h:SandOk x:=h
 obtain ⟨hj,ha,hb⟩:=h.is
 have sa:=slat_smalls ha;have sb:=slat_smalls hb
 have hn:=hj.n;have hp:=hj.p
 have pa:=ha.p;have pb:=hb.p
 refine ⟨⟨sa.2.1,sb.2.1⟩,⟨sa.2.2,sb.2.2⟩,by simp only [Z.in64];omega,⟨?_,by show -10≤x.1.2.2.2.2.2 - 1;omega,by show x.1.2.2.2.2.2 - 1≤10;omega⟩,by simp only [Z.in64];omega,rfl⟩
 show smallS 1000000 (lessS x.2.1.2.2.2 x.2.2.2.2.2)
 rw [pitch_eq h]
 simp only [smallS];omega
theorem v55 (x:Sand) (h:k55.pre x):V55 x:=by
 have h:SandOk x:=h
 obtain ⟨hj,ha,hb⟩:=h.is
 have sa:=slat_smalls ha;have sb:=slat_smalls hb;have sj:=jig_smalls hj
 refine ⟨⟨sj.1.1,sj.1.2⟩,⟨(by show 3≤10;omega),fun s hs=>?_⟩,rfl⟩
 have hs:s∈[x.2.1.2.1,x.2.2.2.1,lessS x.1.1 x.1.2.1]:=hs
 simp only [List.mem_cons,List.not_mem_nil,or_false] at hs
 rcases hs with rfl | rfl | rfl
 ·exact sa.1.2.mono (by decide)
 ·exact sb.1.2.mono (by decide)
 ·have h1:=hj.g;have h2:=hj.l
  rw [less_eq _ _ h2.2.1]
  simp only [smallS];omega
theorem v30 (x:Sand) (h:k30.pre x):V30 x:=by
 have h:SandOk x:=h
 obtain ⟨hj,ha,hb⟩:=h.is
 have sa:=slat_smalls ha;have sb:=slat_smalls hb;have sj:=jig_smalls hj
 refine ⟨⟨sa.1.1,sb.1.1⟩,⟨sj.1.2,sj.1.1⟩,⟨sa.1.2,(show (-10:Int)≤-2 by decide),(show (-2:Int)≤10 by decide)⟩,⟨sj.2.2,(show (-10:Int)≤-2 by decide),(show (-2:Int)≤10 by decide)⟩,⟨(by show 4≤10;omega),fun s hs=>?_⟩,rfl⟩
 have hs:s∈[lessS x.2.1.1 x.2.2.1,lessS x.1.2.1 x.1.1,timesS x.2.1.2.1 (-2),timesS x.1.2.2.2.1 (-2)]:=hs
 simp only [List.mem_cons,List.not_mem_nil,or_false] at hs
 have h1:=hj.g;have h2:=hj.l;have h3:=ha.t;have h4:=hb.t
 rcases hs with rfl | rfl | rfl | rfl
 ·rw [less_eq _ _ h4.2.1]
  simp only [smallS];omega
 ·rw [less_eq _ _ h1.2.1]
  simp only [smallS];omega
 ·exact times_small sa.1.2 (by decide)
 ·exact times_small sj.2.2 (by decide)
theorem first_small {x:Sand} (h:SandOk x):smallS 1000000 (firstS x)∧smallS 1000000 (moreS x):=by
 obtain ⟨hj,ha,hb⟩:=h.is
 have h1:=ha.s;have h2:=hb.s;have h3:=ha.p;have h4:=hb.p;have hn:=hj.n
 refine ⟨by rw [first_eq h];simp only [smallS];omega,?_⟩
 unfold moreS
 rw [pitch_eq h,times_pos _ (by simp only;omega) (by omega)]
 have hk:0≤x.1.2.2.2.2.2 - 1∧x.1.2.2.2.2.2 - 1≤9:=by omega
 have m1:=mul_in hk (a:=x.2.1.2.2.2.1 - x.2.2.2.2.2.2) (A:=100) (by omega) (by decide)
 have m2:=mul_in hk (a:=x.2.1.2.2.2.2 - x.2.2.2.2.2.1) (A:=100) (by omega) (by decide)
 simp only [smallS];omega
theorem v48 (x:Sand) (h:k48.pre x):V48 x:=by
 have h:SandOk x:=h
 obtain ⟨f1,f2⟩:=first_small h
 refine ⟨h,trivial,fun _=>⟨(by show 2≤10;omega),fun s hs=>?_⟩,fun _=>trivial,rfl⟩
 have hs:s∈[firstS x,moreS x]:=hs
 simp only [List.mem_cons,List.not_mem_nil,or_false] at hs
 rcases hs with rfl | rfl
 ·exact f1.mono (by decide)
 ·exact f2.mono (by decide)
theorem v51 (x:Sand) (h:k51.pre x):V51 x:=by
 have h:SandOk x:=h
 obtain ⟨f1,f2⟩:=first_small h
 refine ⟨h,trivial,trivial,fun _=>⟨(by show 2≤10;omega),fun s hs=>?_⟩,fun _=>trivial,fun _=>trivial,rfl⟩
 have hs:s∈[andS (firstS x) (playS x),moreS x]:=hs
 simp only [List.mem_cons,List.not_mem_nil,or_false] at hs
 rcases hs with rfl | rfl
 ·have hp:=h.is.1.p
  simp only [smallS,andS,playS] at *
  omega
 ·exact f2.mono (by decide)
theorem v54 (x:Sand) (h:k54.pre x):V54 x:=⟨h,rfl⟩
theorem v56 (x:Sand) (h:k56.pre x):V56 x:=⟨h,rfl⟩
theorem v40 (x:Unit) (_:k40.pre x):V40 x:=rfl
end Go.Tc
/-
 Slat: the conditions,second part.
-/
namespace Go.Tc
open Go Go.Sx
theorem rangeGet {α:Type} (f:Nat→α) (d:α) {n i:Nat} (h:i<n):((List.range n).map f).getD i d=f i:=by
 simp [List.getD,h]
theorem takeOne {α:Type} (l:List α) (d:α) (i:Nat) (h:i<l.length):l.take (i+1)=l.take i++[l.getD i d]:=by
 have hg:l.getD i d=l[i]:=by simp [List.getD,h]
 rw [hg,List.take_append_getElem h]
theorem splitAt' {α:Type} (l:List α) (d:α) (i:Nat) (h:i<l.length):l=l.take i++l.getD i d::l.drop (i+1):=by
 rw [←drop_getD l d i h,List.take_append_drop]
theorem v22 (x:Sand) (h:k22.pre x):V22 x:=by
 have h:SandOk x:=h
 have i0:Z.in64 ((0:Int)+1):=by simp only [Z.in64];omega
 have i1:Z.in64 ((1:Int)+1):=by simp only [Z.in64];omega
 have m0:(2 - ((0:Int)+1)).toNat<(2 - (0:Int)).toNat:=by decide
 have m1:(2 - ((1:Int)+1)).toNat<(2 - (1:Int)).toNat:=by decide
 refine ⟨trivial,fun s=>(s=(2,0))∨(cond2 x=true∧s=(cond (cond1 x) 2 1,1))∨(cond2 x=true∧slat_conditions_4 x=true∧s=(cond (cond1 x&&slat_conditions_3 x) 2 1,2)),fun s=>(2 - s.2).toNat,.inl rfl,?_⟩
 rintro s (rfl | ⟨c2,rfl⟩ | ⟨c2,c4,rfl⟩)
 ·refine ⟨fun _=>⟨⟨by decide,(show (0:Int)<2 by decide)⟩,h,fun hv=>?_,fun hv=>⟨h,fun hw=>⟨i0,.inr (.inl ⟨?_,?_⟩),m0⟩,fun hw=>⟨i0,.inr (.inl ⟨?_,?_⟩),m0⟩⟩⟩,(fun hd=>by cases hd)⟩
  ·have hv:(!cond2 x)=true:=hv
   show 0=closesV x
   unfold closesV
   rw [not_iff.1.1 hv,Bool.false_and,cond_false]
  ·have hv:(!cond2 x)=false:=hv
   exact not_iff.2.1 hv
  ·have hw:(!cond1 x)=true:=hw
   rw [not_iff.1.1 hw];rfl
  ·have hv:(!cond2 x)=false:=hv
   exact not_iff.2.1 hv
  ·have hw:(!cond1 x)=false:=hw
   rw [not_iff.2.1 hw];rfl
 ·refine ⟨fun _=>⟨⟨(show (0:Int)≤1 by decide),(show (1:Int)<2 by decide)⟩,h,fun hv=>?_,fun hv=>⟨h,fun hw=>⟨i1,.inr (.inr ⟨c2,?_,?_⟩),m1⟩,fun hw=>⟨i1,.inr (.inr ⟨c2,?_,?_⟩),m1⟩⟩⟩,(fun hd=>by cases hd)⟩
  ·have hv:(!slat_conditions_4 x)=true:=hv
   show 0=closesV x
   unfold closesV
   rw [not_iff.1.1 hv,Bool.and_false,cond_false]
  ·have hv:(!slat_conditions_4 x)=false:=hv
   exact not_iff.2.1 hv
  ·have hw:(!slat_conditions_3 x)=true:=hw
   rw [not_iff.1.1 hw,Bool.and_false];rfl
  ·have hv:(!slat_conditions_4 x)=false:=hv
   exact not_iff.2.1 hv
  ·have hw:(!slat_conditions_3 x)=false:=hw
   rw [not_iff.2.1 hw,Bool.and_true];rfl
 ·refine ⟨(fun hd=>by cases hd),fun _=>?_⟩
  show cond (cond1 x&&slat_conditions_3 x) 2 1=closesV x
  unfold closesV
  rw [c2,c4];rfl
theorem v10 (x:Jig × Slat × Slat) (_:k10.pre x):V10 x:=by
 obtain ⟨j,a,b⟩:=x
 refine ⟨by show 2≤big;simp only [big];omega,fun h=>?_,fun h=>?_⟩
 ·have h:(!slat_isJig (j,[a,b]))=true:=h
  show (0,1)=slat_Closes (j,a,b)
  unfold slat_Closes
  simp only [not_iff.1.1 h,cond_false]
 ·have h:(!slat_isJig (j,[a,b]))=false:=h
  have h:=not_iff.2.1 h
  refine ⟨isJig_two.1 h,?_⟩
  show (closesV (j,a,b),0)=slat_Closes (j,a,b)
  unfold slat_Closes
  simp only [h,cond_true]
theorem offs_len (x:Sand):(offsV x).length=x.1.2.2.2.2.2.toNat:=by simp [offsV]
theorem offs_at (x:Sand) {i:Nat} (h:i<x.1.2.2.2.2.2.toNat):(offsV x).getD i (0,0,0)=((i:Int),sideS x (i:Int)):=rangeGet _ _ h
theorem v41 (ly:Nat) (x:Sand) (h:k41.pre x):V41 ly x:=by
 have h:SandOk x:=h
 obtain ⟨hj,ha,hb⟩:=h.is
 have sa:=slat_smalls ha;have sb:=slat_smalls hb;have sj:=jig_smalls hj
 have hn:=hj.n
 refine ⟨fun s=>∃ i:Nat,s.1=(i:Int)∧i≤x.1.2.2.2.2.2.toNat∧s.2.2=false∧s.2.1=(offsV x).take i,fun s=>(x.1.2.2.2.2.2 - s.1).toNat,⟨0,rfl,by omega,rfl,rfl⟩,?_⟩
 rintro ⟨_,l,b⟩ ⟨i,rfl,hi,hb0,rfl⟩
 dsimp only at hb0 ⊢
 subst hb0
 refine ⟨fun hd=>?_,fun hd _=>?_⟩
 ·have hd:(i:Int)<x.1.2.2.2.2.2:=of_decide_eq_true hd
  have hil:i<(offsV x).length:=by rw [offs_len];omega
  have hg:=offs_at x (i:=i) (by omega)
  have e:slat_sum ((((((List.replicate 5 ((0,0):Span)).set 0 x.2.1.2.2.1).set 1 (slat_span_times (x.2.1.2.2.2,(i:Int)))).set 2 x.2.2.2.2.1).set 3 (slat_span_times (x.2.2.2.2.2,(i:Int)))).set 4 (slat_span_times (x.1.2.2.1,(-2))))=sideS x (i:Int):=rfl
  rw [e]
  have hs:=splitAt' (offsV x) (0,0,0) i hil
  have ht:=takeOne (offsV x) (0,0,0) i hil
  rw [hg] at hs ht
  refine ⟨⟨sa.2.2,(show (-10:Int)≤(i:Int) by omega),(show (i:Int)≤10 by omega)⟩,⟨sb.2.2,(show (-10:Int)≤(i:Int) by omega),(show (i:Int)≤10 by omega)⟩,⟨sj.2.1,(show (-10:Int)≤-2 by decide),(show (-2:Int)≤10 by decide)⟩,⟨(by show 5≤10;omega),fun s hs=>?_⟩,trivial,trivial,trivial,⟨rfl,rfl⟩,⟨_,hs⟩,⟨trivial,(fun h=>by cases h),fun _=>⟨by simp only [Z.in64];omega,⟨i+1,rfl,by omega,rfl,ht.symm⟩,by omega⟩⟩,trivial,(fun _ h=>by cases h),fun h=>by cases h⟩
  have hs:s∈[x.2.1.2.2.1,timesS x.2.1.2.2.2 (i:Int),x.2.2.2.2.1,timesS x.2.2.2.2.2 (i:Int),timesS x.1.2.2.1 (-2)]:=hs
  simp only [List.mem_cons,List.not_mem_nil,or_false] at hs
  rcases hs with rfl | rfl | rfl | rfl | rfl
  ·exact sa.2.1.mono (by decide)
  ·exact times_small sa.2.2 (by omega)
  ·exact sb.2.1.mono (by decide)
  ·exact times_small sb.2.2 (by omega)
  ·exact times_small sj.2.1 (by decide)
 ·have hd:¬ (i:Int)<x.1.2.2.2.2.2:=of_decide_eq_false hd
  show (offsV x).take i=offsV x
  exact List.take_of_length_le (by rw [offs_len];omega)
theorem v26 (x:Sand) (_:k26.pre x):V26 x:=rfl
theorem v12 (x:Jig × Slat × Slat × Int) (_:k12.pre x):V12 x:=by
 obtain ⟨j,a,b,g⟩:=x
 refine ⟨by show 2≤big;simp only [big];omega,fun h=>?_,fun h=>?_⟩
 ·have h:(!slat_isJig (j,[a,b]))=true:=h
  show ((0,0),(0,0),1)=slat_Off (j,a,b,g)
  unfold slat_Off
  simp only [not_iff.1.1 h,cond_false]
 ·have h:(!slat_isJig (j,[a,b]))=false:=h
  have h:=not_iff.2.1 h
  have hs:=isJig_two.1 h
  have hn:=hs.is.1.n
  have hn:1≤j.2.2.2.2.2∧j.2.2.2.2.2≤10:=hn
  refine ⟨by simp only [Z.in64];omega,trivial,fun hg=>?_,fun hg=>?_⟩
  ·have hg:(!inB g 0 (j.2.2.2.2.2 - 1))=true:=hg
   show ((0,0),(0,0),2)=slat_Off (j,a,b,g)
   unfold slat_Off
   simp only [h,cond_true,not_iff.1.1 hg,cond_false]
  ·have hg:(!inB g 0 (j.2.2.2.2.2 - 1))=false:=hg
   have hg:=not_iff.2.1 hg
   have hgi:=inB_iff.1 hg
   refine ⟨trivial,hs,?_⟩
   refine ⟨fun r s=>∃ i:Nat,i≤j.2.2.2.2.2.toNat∧r=(offsV (j,a,b)).drop i∧(g<(i:Int)→s=sideS (j,a,b) g),⟨0,by omega,rfl,fun h=>by omega⟩,?_,?_⟩
   ·rintro e r s ⟨i,hi,hr,hsi⟩
    have hlen:=offs_len (j,a,b)
    have hlen:(offsV (j,a,b)).length=j.2.2.2.2.2.toNat:=hlen
    have hil:i<(offsV (j,a,b)).length:=by
     by_cases hlt:i<(offsV (j,a,b)).length
     ·exact hlt
     ·rw [List.drop_eq_nil_of_le (by omega)] at hr;cases hr
    rw [drop_getD _ (0,0,0) i hil,offs_at (j,a,b) (i:=i) (by show i<j.2.2.2.2.2.toNat;omega)] at hr
    injection hr with he hr
    subst he
    refine ⟨fun hv=>⟨rfl,rfl,rfl,i+1,by omega,hr,fun _=>?_⟩,fun hv=>⟨rfl,rfl,rfl,i+1,by omega,hr,fun hlt=>?_⟩⟩
    ·have hv:((i:Int)==g)=true:=hv
     have:=eq_of_beq hv
     show sideS (j,a,b) (i:Int)=_
     rw [this]
    ·have hv:((i:Int)==g)=false:=hv
     have hne:(i:Int)≠g:=by simpa using hv
     exact hsi (by omega)
   ·rintro s ⟨i,hi,hr,hsi⟩
    have hlen:(offsV (j,a,b)).length=j.2.2.2.2.2.toNat:=offs_len (j,a,b)
    have hie:i=j.2.2.2.2.2.toNat:=by
     by_cases hlt:i<(offsV (j,a,b)).length
     ·rw [drop_getD _ (0,0,0) i hlt] at hr;cases hr
     ·omega
    have hse:=hsi (by omega)
    refine ⟨hs,?_⟩
    show (s,highS (j,a,b),0)=slat_Off (j,a,b,g)
    unfold slat_Off
    simp only [h,cond_true,hg,hse]
theorem sq_bd {a A:Int} (h:-A≤a∧a≤A):0≤a*a∧a*a≤A*A:=by
 have h0:0≤a*a:=by
  rcases Int.le_total 0 a with h | h
  ·exact Int.mul_nonneg h h
  ·exact Int.mul_nonneg_of_nonpos_of_nonpos h h
 refine ⟨h0,?_⟩
 by_cases ha:0≤a
 ·exact Int.mul_le_mul h.2 h.2 ha (by omega)
 ·have e:a*a=(-a)*(-a):=by rw [Int.neg_mul_neg]
  rw [e]
  exact Int.mul_le_mul (by omega) (by omega) (by omega) (by omega)
theorem far_bd {s:Span} {A:Int} (h:smallS A s):-A≤farS s∧farS s≤A:=by
 simp only [smallS] at h
 unfold farS
 omega
theorem v29 (x:Span × Span × Int) (h:k29.pre x):V29 x:=by
 obtain ⟨⟨h1,h2⟩,h3,h4⟩:(smallS 10000000 x.1∧smallS 10000000 x.2.1)∧0≤x.2.2∧x.2.2≤1000:=h
 obtain ⟨a0,a1⟩:=sq_bd (far_bd h1)
 obtain ⟨b0,b1⟩:=sq_bd (far_bd h2)
 have n1:=Int.mul_le_mul_of_nonneg_left h4 (show (0:Int)≤4*x.2.2 by omega)
 have n0:=Int.mul_nonneg (show (0:Int)≤4*x.2.2 by omega) h3
 have e1:slat_span_far x.1=farS x.1:=rfl
 have e2:slat_span_far x.2.1=farS x.2.1:=rfl
 simp only [V29,e1,e2]
 have last:decide (farS x.1*farS x.1+farS x.2.1*farS x.2.1≤4*x.2.2*x.2.2)=slat_isWithin x:=rfl
 generalize farS x.1*farS x.1=p at *
 generalize farS x.2.1*farS x.2.1=q at *
 refine ⟨h1,h1,by simp only [Z.in64];omega,h2,h2,by simp only [Z.in64];omega,by simp only [Z.in64];omega,by simp only [Z.in64];omega,by simp only [Z.in64];omega,last⟩
theorem v28 (x:Int × Span × Sand) (h:k28.pre x):V28 x:=by
 obtain ⟨⟨h1,h2⟩,h3⟩:(SandOk x.2.2∧smallS 10000000 x.2.1)∧0≤x.1∧x.1≤1000:=h
 exact ⟨h1,⟨⟨h2,(high_small h1).mono (by decide)⟩,h3⟩,rfl⟩
theorem v23 (x:Int × Int) (h:k23.pre x):V23 x:=by
 have h:-1≤x.2∧x.2≤1000:=h
 exact ⟨by simp only [Z.in64];omega,trivial,rfl⟩
end Go.Tc
/-
 Slat: grades;numbers by remainders;the examples.
-/
namespace Go.Tc
open Go Go.Sx
theorem lim_all:∀ (l:List Int) (a:Int),-1≤a→limB a l=true→∀ n∈l,0≤n∧n≤1000
 | [],_,_,_,n,h=>by cases h
 | m::l,a,ha,h,n,hn=>by
  rw [limB,Bool.and_eq_true,inB_iff] at h
  rcases List.mem_cons.1 hn with rfl | hn
  ·omega
  ·exact lim_all l m (by omega) h.2 n hn
abbrev gradeG (X:Sand) (l:List Int) (s:Span):Int:=ixF (fun n=>withinS s (highS X) n) l 0
theorem grades_map (X:Sand) (l:List Int):gradesV X l=(offsV X).map fun e=>gradeG X l e.2:=by
 unfold gradesV offsV
 rw [List.map_map];rfl
theorem grades_range {X:Sand} (hs:SandOk X) {l:List Int} (hl:l.length≤8) (hlim:∀ n∈l,0≤n∧n≤1000) {A B C:Prop} (ha:A) (hb:B) (hc:C) {K:(List Int) × List Int→Prop} (hK:∀ s,s.2=gradesV X l→K s) :
  Z.RangeP (X:=(List Int) × List Int) ([],[]) (offsV X) (fun e s K'=>(slices_IndexFunc_Lint_int_p (l,⟨fun n=>slat_Grades_2u_p (n,e.2,X),fun n=>slat_Grades_2 (n,e.2,X)⟩)) ∧
   (Z.roomy 1 ((s.2++[slices_IndexFunc_Lint_int (l,⟨fun n=>slat_Grades_2u_p (n,e.2,X),fun n=>slat_Grades_2 (n,e.2,X)⟩)]).length:Int)∧(A∧(B∧(C∧K' (s.1,s.2++[slices_IndexFunc_Lint_int (l,⟨fun n=>slat_Grades_2u_p (n,e.2,X),fun n=>slat_Grades_2 (n,e.2,X)⟩)])))))) K:=by
 have hn:=hs.is.1.n
 have hlen:(offsV X).length≤10:=by rw [offs_len];omega
 refine ⟨fun r s=>(∃ i,r=(offsV X).drop i)∧s.2.length+r.length≤10∧s.2++r.map (fun e=>gradeG X l e.2)=gradesV X l,⟨⟨0,rfl⟩,by simpa using hlen,by rw [grades_map];rfl⟩,?_,?_⟩
 ·rintro e r s ⟨⟨i,hr⟩,hle,he⟩
  have hil:i<(offsV X).length:=by
   by_cases hlt:i<(offsV X).length
   ·exact hlt
   ·rw [List.drop_eq_nil_of_le (by omega)] at hr;cases hr
  have hr2:=hr
  rw [drop_getD _ (0,0,0) i hil] at hr2
  injection hr2 with hee hr2
  have hg:=offs_at X (i:=i) (by rw [←offs_len];exact hil)
  rw [hg] at hee
  have hsm:smallS 10000000 e.2:=by
   rw [hee]
   rw [offs_len] at hil
   exact (side_small hs (i:=(i:Int)) (by omega)).mono (by decide)
  rw [List.length_cons] at hle
  refine ⟨⟨by simp only [big];omega,fun n hn=>⟨⟨hs,hsm⟩,hlim n hn⟩⟩,?_,ha,hb,hc,⟨i+1,hr2⟩,?_,?_⟩
  ·simp only [Z.roomy,List.length_append,List.length_singleton];omega
  ·show (s.2++[_]).length+r.length≤10
   rw [List.length_append,List.length_singleton];omega
  ·show (s.2++[_])++_=_
   rw [List.append_assoc]
   exact he
 ·rintro s ⟨_,_,he⟩
  rw [List.map_nil,List.append_nil] at he
  exact hK s he
theorem v11 (x:Jig × Slat × Slat × List Int) (_:k11.pre x):V11 x:=by
 obtain ⟨j,a,b,l⟩:=x
 refine ⟨by show 2≤big;simp only [big];omega,fun h=>?_,fun h=>⟨fun h8=>?_,fun h8=>?_⟩⟩
 ·have h:(!slat_isJig (j,[a,b]))=true:=h
  show ([],1)=slat_Grades (j,a,b,l)
  unfold slat_Grades
  simp only [not_iff.1.1 h,cond_false]
 ·have h:(!slat_isJig (j,[a,b]))=false:=h
  have h8:decide ((8:Int)<(l.length:Int))=true:=h8
  show ([],3)=slat_Grades (j,a,b,l)
  unfold slat_Grades
  simp only [not_iff.2.1 h,cond_true,h8]
 ·have h:(!slat_isJig (j,[a,b]))=false:=h
  have h:=not_iff.2.1 h
  have hs:=isJig_two.1 h
  have h8:decide ((8:Int)<(l.length:Int))=false:=h8
  have hl8:l.length≤8:=by have:=of_decide_eq_false h8;omega
  have hval:slat_Grades (j,a,b,l)=cond (((l.length:Int)==0)||!limB (-1) l) ([],2) (cond (closesV (j,a,b)==2) (gradesV (j,a,b) l,0) ([],6)):=by
   unfold slat_Grades
   simp only [h,cond_true,h8,cond_false]
  refine ⟨trivial,trivial,trivial,trivial,trivial,trivial,fun h0=>⟨trivial,trivial,?_⟩,fun h0=>⟨trivial,trivial,fun _=>?_,fun hf=>?_⟩⟩
  ·have h0:((l.length:Int)==0)=false:=h0
   refine ⟨fun s=>∃ i:Nat,s.1=(i:Int)∧i≤l.length∧(-1≤s.2∧s.2≤1000)∧limB s.2 (l.drop i)=limB (-1) l,fun s=>((l.length:Int) - s.1).toNat,⟨0,rfl,by omega,by decide,rfl⟩,?_⟩
   rintro ⟨_,last⟩ ⟨i,rfl,hi,hla,hlim⟩
   dsimp only at hla hlim ⊢
   rw [Int.toNat_natCast]
   refine ⟨fun hd=>?_,fun hd=>?_⟩
   ·have hd:(i:Int)<(l.length:Int):=of_decide_eq_true hd
    have hil:i<l.length:=by omega
    rw [drop_getD l 0 i hil,limB] at hlim
    refine ⟨⟨by omega,hd⟩,⟨hla,trivial,trivial⟩,fun hv=>⟨trivial,trivial,trivial,trivial,fun _=>?_,fun hf=>?_⟩,fun hv=>?_⟩
    ·have hv:(!inB (l.getD i 0) (last+1) 1000)=true:=hv
     rw [not_iff.1.1 hv,Bool.false_and] at hlim
     show ([],2)=slat_Grades (j,a,b,l)
     rw [hval,←hlim]
     simp
    ·have:decide ((0:Int)≤(i:Int))=true:=decide_eq_true (by omega)
     rw [this,Bool.or_true] at hf;cases hf
    ·have hv:(!inB (l.getD i 0) (last+1) 1000)=false:=hv
     have hv:=not_iff.2.1 hv
     rw [hv,Bool.true_and] at hlim
     have hin:=inB_iff.1 hv
     refine ⟨by simp only [Z.in64];omega,rfl,rfl,rfl,⟨i+1,rfl,hil,⟨?_,?_⟩,hlim⟩,by omega⟩
     ·show -1≤l.getD i 0;omega
     ·show l.getD i 0≤1000;omega
   ·have hd:¬ (i:Int)<(l.length:Int):=of_decide_eq_false hd
    have:i=l.length:=by omega
    subst this
    rw [List.drop_eq_nil_of_le (Nat.le_refl _)] at hlim
    have hlim:limB (-1) l=true:=hlim.symm
    have hall:=lim_all l (-1) (by decide) hlim
    have hval2:slat_Grades (j,a,b,l)=cond (closesV (j,a,b)==2) (gradesV (j,a,b) l,0) ([],6):=by
     rw [hval,h0,hlim];rfl
    refine ⟨trivial,trivial,trivial,trivial,fun hf=>?_,fun _=>⟨hs,fun hc=>?_,fun hc=>⟨trivial,hs,?_⟩⟩⟩
    ·rw [h0] at hf;cases hf
    ·have hc:(!(closesV (j,a,b)==2))=true:=hc
     show ([],6)=slat_Grades (j,a,b,l)
     rw [hval2,not_iff.1.1 hc];rfl
    ·have hc:(!(closesV (j,a,b)==2))=false:=hc
     refine grades_range (X:=(j,a,b)) hs hl8 hall rfl rfl rfl fun s he=>?_
     show (s.2,0)=slat_Grades (j,a,b,l)
     rw [hval2,not_iff.2.1 hc,he];rfl
  ·have h0:((l.length:Int)==0)=true:=h0
   show ([],2)=slat_Grades (j,a,b,l)
   rw [hval,h0];rfl
  ·have h0:((l.length:Int)==0)=true:=h0
   have hf:(((l.length:Int)==0)&&true)=false:=hf
   rw [h0] at hf;cases hf
theorem tmod_in {a b:Int} (ha:0≤a) (hb:0<b):0≤Int.tmod a b∧Int.tmod a b<b :=
 ⟨Int.tmod_nonneg b ha,Int.tmod_lt_of_pos a hb⟩
theorem wrap16 (x:Int):0≤IntKind.u16.wrap x∧IntKind.u16.wrap x≤65535:=by
 have e:IntKind.u16.wrap x=x % 65536:=rfl
 rw [e];omega
theorem pick_in {s:Span} (h:s.1≤s.2) (k:Int) (l:List Int):s.1≤pickV s k l∧pickV s k l≤s.2:=by
 unfold pickV
 obtain ⟨t0,t1⟩:=tmod_in (wrap16 (l.getD (Int.tmod k (l.length:Int)).toNat 0+IntKind.u16.wrap k)).1 (show 0<s.2 - s.1+1 by omega)
 omega
theorem v9 (x:Span × Int × List Int) (h:k9.pre x):V9 x:=by
 obtain ⟨s,k,l⟩:=x
 obtain ⟨⟨h1,h2⟩,⟨h3,h4⟩,h5,h6⟩:(smallS 1000000 s∧s.1≤s.2)∧(0≤k∧k≤1000)∧0<l.length∧∀ b∈l,0≤b∧b≤65535:=h
 obtain ⟨t0,t1⟩:=tmod_in (show (0:Int)≤k+1 by omega) (show (0:Int)<(l.length:Int) by omega)
 have hp:=pick_in h2 (k+1) l
 simp only [smallS] at h1
 refine ⟨by simp only [Z.in64];omega,(show (l.length:Int)≠0 by omega),⟨t0,t1⟩,by simp only [Z.in64];omega,by simp only [Z.in64];omega,(show s.2 - s.1+1≠0 by omega),?_,rfl⟩
 have hp:s.1≤s.1+Int.tmod (IntKind.u16.wrap (l.getD (Int.toNat (Int.tmod (k+1) (l.length:Int))) 0+IntKind.u16.wrap (k+1))) (s.2 - s.1+1)∧s.1+Int.tmod (IntKind.u16.wrap (l.getD (Int.toNat (Int.tmod (k+1) (l.length:Int))) 0+IntKind.u16.wrap (k+1))) (s.2 - s.1+1)≤s.2:=hp
 simp only [Z.in64]
 omega
theorem v5 (x:Unit) (_:k5.pre x):V5 x:=⟨trivial,trivial,by kernel_rfl⟩
end Go.Tc
