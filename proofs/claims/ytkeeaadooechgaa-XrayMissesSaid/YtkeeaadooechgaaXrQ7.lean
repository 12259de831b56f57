/-
  Chapter 6: XrayMisses.
-/
import Derived.Test.YtkeeaadooechgaaXrAuto5
import Derived.Test.YtkeeaadooechgaaXrO6
import Derived.Test.YtkeeaadooechgaaXrQ5
set_option linter.all false
set_option maxRecDepth 100000
set_option maxHeartbeats 4000000
set_option linter.unusedVariables false
namespace Go.Xr
open Go Go.Sx
theorem tabs_ok5:TabsOk Go.Proofs.Try.prog T5:=by
 refine ⟨by kernel_rfl,fun p hp=>?_⟩
 simp only [T5,List.not_mem_nil] at hp
theorem v21 (x:Crate × List Spot) (h:k21.pre x):V21 x:=by
 obtain ⟨c,l⟩:=x
 have h1:c.1.length≤big:=h.1
 have h2:l.length≤big:=h.2
 simp only [big] at h1 h2
 refine ⟨fun p=>(0≤p.2∧p.2≤(l.length:Int))∧p.1=(l.take p.2.toNat).map goodOf,fun p=>((l.length:Int) - p.2).toNat,⟨⟨Int.le_refl _,by show (0:Int)≤_;omega⟩,by simp⟩,?_⟩
 rintro ⟨g,i⟩ ⟨⟨i1,i2⟩,hg⟩
 simp only at i1 i2 hg
 subst hg
 refine ⟨fun hlt=>?_,fun hlt=>?_⟩
 ·have hlt:i<(l.length:Int):=of_decide_eq_true hlt
  refine ⟨⟨i1,hlt⟩,⟨i1,hlt⟩,roomy_of (by decide) (by decide) ?_,by simp only [Z.in64];omega,⟨⟨by show 0≤i+1;omega,by show i+1≤_;omega⟩,?_⟩,by show ((l.length:Int) - (i+1)).toNat<((l.length:Int) - i).toNat;omega⟩
  ·simp only [List.length_append,List.length_map,List.length_take,List.length_set,List.length_replicate]
   omega
  ·show _=(l.take (i+1).toNat).map goodOf
   rw [take_one l (0,0) i i1 hlt,List.map_append]
   rfl
 ·have hlt:¬ i<(l.length:Int):=of_decide_eq_false hlt
  dsimp only
  rw [List.take_of_length_le (by omega)]
  refine ⟨⟨by show c.1.length≤big;simp only [big];omega,by show (l.map goodOf).length≤big;simp only [big,List.length_map];omega⟩,?_⟩
  show ((cond (openE c (l.map goodOf) true==0) (pictV c (l.map goodOf)).2.1 (0,0)).2,openE c (l.map goodOf) true)=(cond (openE c (l.map goodOf) true==0) (pictV c (l.map goodOf)).2.1.2 0,openE c (l.map goodOf) true)
  cases openE c (l.map goodOf) true==0<;>rfl
theorem v47 (x:Crate × List Spot) (h:k47.pre x):V47 x:=⟨h,rfl⟩
theorem v48 (x:Crate × Int × Int × List Spot) (h:k48.pre x):V48 x:=by
 obtain ⟨c,n,m,S⟩:=x
 obtain ⟨hcb,⟨m1,m40⟩,hS,hl⟩:=h
 simp only at hcb m1 m40 hS hl
 have hc:=crate_iff.1 hcb
 have hr8:=hc.r8
 have hc1:=hc.c1
 have hc8:=hc.c8
 have hall:=all_bd hc
 have c1:c.1.length≤big:=by simp only [big];omega
 have r1:∀ {k:Int} {n:Nat},0≤k→k≤100→n≤1000→Z.roomy k (n:Int):=fun h1 h2 h3=>roomy_of h1 h2 (by omega)
 refine ⟨fun he=>?_,fun he=>?_⟩
 ·have he:(S.length:Int)=m:=by simpa using he
  have hval:ref06u_choose (c,n,m,S)=cond (decide ((xray_Missed (c,S)).1≤n)) S []:=by
   show chooseN c n (m - (S.length:Int)).toNat S=_
   rw [show (m - (S.length:Int)).toNat=0 by omega,chooseN]
  refine ⟨⟨c1,by show S.length≤big;simp only [big];omega⟩,fun hd=>⟨r1 (by decide) (by decide) (by show S.length≤1000;omega),?_,?_⟩,fun hd=>⟨?_,trivial⟩⟩
  ·rw [hval,show decide ((xray_Missed (c,S)).1≤n)=true from hd];rfl
  ·rw [hval,show decide ((xray_Missed (c,S)).1≤n)=true from hd]
   intro e
   have e:S=[]:=e
   rw [e] at he
   simp at he
   omega
  ·rw [hval,show decide ((xray_Missed (c,S)).1≤n)=false from hd];rfl
 ·have hne:(S.length:Int)≠m:=by simpa using he
  obtain ⟨k,hk⟩:∃ k:Nat,(m - (S.length:Int)).toNat=k+1:=⟨(m - (S.length:Int)).toNat - 1,by omega⟩
  have hval:ref06u_choose (c,n,m,S)=firstS (fun i=>chooseN c n k (S++[spotAt c i])) (fromTo (startV c S) (allP c)):=by
   show chooseN c n (m - (S.length:Int)).toNat S=_
   rw [hk,chooseN]
  have h0:=start_nn hS
  have hin:∀ i,startV c S≤i→i<allP c→inside c (spotAt c i):=fun i h1 h2=>spot_inside hc (by omega) h2
  have happ:∀ s:Spot,(([]:List Spot)++S)++[s]=S++[s]:=fun s=>rfl
  have hq:∀ i,startV c S≤i→i<allP c→ref06u_choose_q (c,n,m,S) (c,n,m,S++[spotAt c i]):=fun i h1 h2=>by
   refine ⟨⟨hcb,⟨m1,m40⟩,fun s hs=>?_,?_⟩,?_⟩
   ·have hs:s∈S++[spotAt c i]:=hs
    rw [List.mem_append,List.mem_singleton] at hs
    rcases hs with hs | hs
    ·exact hS s hs
    ·rw [hs];exact hin i h1 h2
   ·show ((S++[spotAt c i]).length:Int)≤m
    rw [List.length_append,List.length_singleton];omega
   ·show (m - ((S++[spotAt c i]).length:Int)).toNat<(m - (S.length:Int)).toNat
    rw [List.length_append,List.length_singleton];omega
  have hcv:∀ i,ref06u_choose (c,n,m,S++[spotAt c i])=chooseN c n k (S++[spotAt c i]):=fun i=>by
   show chooseN c n (m - ((S++[spotAt c i]).length:Int)).toNat _=_
   rw [show (m - ((S++[spotAt c i]).length:Int)).toNat=k by rw [List.length_append,List.length_singleton];omega]
  have hdz:∀ i,startV c S≤i→i<allP c→Z.in64 (Int.tdiv i c.2.1):=fun i h1 h2=>by
   have q1:0≤Int.tdiv i c.2.1:=(hin i h1 h2).1.1
   have q2:Int.tdiv i c.2.1<(c.1.length:Int):=(hin i h1 h2).1.2
   simp only [Z.in64];omega
  have hlenA:∀ i:Int,(S++[spotAt c i]).length≤1000:=fun i=>by rw [List.length_append,List.length_singleton];omega
  have hallz:Z.in64 ((c.1.length:Int)*c.2.1):=by
   have:allP c=(c.1.length:Int)*c.2.1:=rfl
   rw [←this];simp only [Z.in64];omega
  have hstep:∀ i,startV c S≤i→i<allP c→firstS (fun i=>chooseN c n k (S++[spotAt c i])) (fromTo i (allP c))=ref06u_choose (c,n,m,S) →
    (ref06u_choose (c,n,m,S++[spotAt c i])=[]→firstS (fun i=>chooseN c n k (S++[spotAt c i])) (fromTo (i+1) (allP c))=ref06u_choose (c,n,m,S)) ∧
    (¬ ref06u_choose (c,n,m,S++[spotAt c i])=[]→ref06u_choose (c,n,m,S++[spotAt c i])=ref06u_choose (c,n,m,S)):=fun i h1 h2 hs=>by
   rw [fromTo_cons h2,firstS,←hcv i] at hs
   refine ⟨fun e=>?_,fun e=>?_⟩
   ·rw [e,List.isEmpty_nil,cond_true] at hs
    exact hs
   ·have hb:(ref06u_choose (c,n,m,S++[spotAt c i])).isEmpty=false:=by
     cases hz:ref06u_choose (c,n,m,S++[spotAt c i]) with
     | nil=>exact absurd hz e
     | cons _ _=>rfl
    rw [hb,cond_false] at hs
    exact hs
  refine ⟨fun hp=>?_,fun hp=>?_⟩
  ·have hp:(0:Int)<(S.length:Int):=of_decide_eq_true hp
   have hlast:inside c (S.getD ((S.length:Int) - 1).toNat (0,0)):=hS _ (getD_mem S (0,0) _ (by omega))
   have hpb:=posn_bd hlast
   have hst:startV c S=posn c (S.getD ((S.length:Int) - 1).toNat (0,0))+1:=by
    unfold startV
    have hb:S.isEmpty=false:=by
     cases hz:S with
     | nil=>rw [hz] at hp;simp at hp
     | cons _ _=>rfl
    rw [hb,cond_false,show S.length - 1=((S.length:Int) - 1).toNat by omega]
   have hrow:=Int.mul_nonneg hlast.1.1 (show 0≤c.2.1 by omega)
   have hk2:=hlast.2
   dsimp only
   generalize S.getD ((S.length:Int) - 1).toNat (0,0)=s at hlast hpb hst hrow hk2
   have hpe:posn c s=s.1*c.2.1+s.2:=rfl
   refine ⟨by simp only [Z.in64];omega,⟨by omega,by omega⟩,by simp only [Z.in64];omega,by simp only [Z.in64];omega,by simp only [Z.in64];omega,fun p=>(startV c S≤p∧(p≤allP c∨p=startV c S))∧firstS (fun i=>chooseN c n k (S++[spotAt c i])) (fromTo p (allP c))=ref06u_choose (c,n,m,S),fun p=>(allP c - p).toNat,⟨⟨by rw [hst,hpe];exact Int.le_refl _,.inr (by rw [hst,hpe])⟩,by rw [hval,hst,hpe]⟩,?_⟩
   rintro i ⟨⟨i1,i2⟩,hi⟩
   refine ⟨hallz,fun hlt=>?_,fun hlt=>?_⟩
   ·have hlt:i<allP c:=of_decide_eq_true hlt
    obtain ⟨st1,st2⟩:=hstep i i1 hlt hi
    have kk:Z.in64 (i+1)∧s=s∧(_∧_):=⟨by simp only [Z.in64];omega,rfl,trivial,trivial⟩
    refine ⟨⟨by omega,hdz i i1 hlt⟩,by omega,r1 (by decide) (by decide) (by show S.length≤1000;omega),r1 (by decide) (by decide) (hlenA i),hq i i1 hlt,fun e=>⟨trivial,trivial,fun hb=>(by cases hb),fun _=>⟨by simp only [Z.in64];omega,rfl,⟨⟨by omega,.inl (by omega)⟩,st1 e⟩,by show (allP c - (i+1)).toNat<(allP c - i).toNat;omega⟩⟩,fun e=>⟨trivial,trivial,fun e'=>absurd e' e,fun _=>⟨st2 e,fun e'=>e ((st2 e).trans e')⟩,fun hb=>(by cases hb)⟩⟩
   ·have hlt:¬ i<allP c:=of_decide_eq_false hlt
    rw [fromTo_nil (by omega)] at hi
    exact ⟨hi,trivial⟩
  ·have hp:¬ (0:Int)<(S.length:Int):=of_decide_eq_false hp
   have hS0:S=[]:=List.eq_nil_of_length_eq_zero (by omega)
   have hst:startV c S=0:=by rw [hS0];rfl
   refine ⟨fun p=>(startV c S≤p∧(p≤allP c∨p=startV c S))∧firstS (fun i=>chooseN c n k (S++[spotAt c i])) (fromTo p (allP c))=ref06u_choose (c,n,m,S),fun p=>(allP c - p).toNat,⟨⟨by rw [hst];exact Int.le_refl _,.inr hst.symm⟩,by rw [hval,hst]⟩,?_⟩
   rintro i ⟨⟨i1,i2⟩,hi⟩
   refine ⟨hallz,fun hlt=>?_,fun hlt=>?_⟩
   ·have hlt:i<allP c:=of_decide_eq_true hlt
    obtain ⟨st1,st2⟩:=hstep i i1 hlt hi
    refine ⟨⟨by show c.2.1≠0;omega,hdz i i1 hlt⟩,by show c.2.1≠0;omega,r1 (by decide) (by decide) (by show S.length≤1000;omega),r1 (by decide) (by decide) (hlenA i),hq i i1 hlt,fun e=>⟨trivial,trivial,fun hb=>(by cases hb),fun _=>⟨by simp only [Z.in64];omega,⟨⟨by show startV c S≤i+1;omega,.inl (by show i+1≤allP c;omega)⟩,st1 e⟩,by show (allP c - (i+1)).toNat<(allP c - i).toNat;omega⟩⟩,fun e=>⟨trivial,trivial,fun e'=>absurd e' e,fun _=>⟨st2 e,fun e'=>e ((st2 e).trans e')⟩,fun hb=>(by cases hb)⟩⟩
   ·have hlt:¬ i<allP c:=of_decide_eq_false hlt
    rw [fromTo_nil (by omega)] at hi
    exact ⟨hi,trivial⟩
theorem v23 (x:Crate × Int) (h:k23.pre x):V23 x:=by
 obtain ⟨c,n⟩:=x
 have h:c.1.length≤big:=h
 refine ⟨h,fun hb=>?_,fun hb=>⟨trivial,fun hi=>?_,fun hi=>?_⟩⟩
 ·have hb:(!crateB c)=true:=hb
  have he:fewestE c n=1:=by unfold fewestE;rw [hb];rfl
  have:=(few_bad (c:=c) (most:=n) (by rw [he];decide)).1
  rw [he] at this
  exact this.symm
 ·have hb:(!crateB c)=false:=hb
  have hi:(!inB n 0 1048576)=true:=hi
  have he:fewestE c n=2:=by unfold fewestE;rw [hb,hi];rfl
  have:=(few_bad (c:=c) (most:=n) (by rw [he];decide)).1
  rw [he] at this
  exact this.symm
 ·have hb:(!crateB c)=false:=hb
  have hi:(!inB n 0 1048576)=false:=hi
  have he:fewestE c n=0:=by unfold fewestE;rw [hb,hi];rfl
  obtain ⟨⟨hc,n0,n1⟩,hfe⟩:=few_eq he
  have hcb:=crate_iff.2 hc
  have hF:=few_is hc n0
  have hmx:=hF.max
  have h8:=hc.r8
  have hc8:=hc.c8
  have hm:=missed_eq hc n (S:=[]) (fun s hs=>by cases hs) (by show (0:Int)≤40;decide)
  have hfw:ref06u_Fewest (c,n)=(fewestV c n,0):=hfe
  refine ⟨⟨h,Nat.zero_le _⟩,fun hle=>?_,fun hle=>?_⟩
  ·have hle:(xray_Missed (c,[])).1≤n:=of_decide_eq_true hle
   rw [hm] at hle
   have hz:(fewestV c n).length=0:=by
    refine Nat.eq_zero_of_not_pos fun hp=>hF.few [] trivial hp hle
   rw [hfw,List.eq_nil_of_length_eq_zero hz]
  ·have hle:¬ (xray_Missed (c,[])).1≤n:=of_decide_eq_false hle
   rw [hm] at hle
   have hpos:0<(fewestV c n).length:=by
    refine Nat.pos_of_ne_zero fun hz=>?_
    have:=hF.good
    rw [List.eq_nil_of_length_eq_zero hz] at this
    exact hle this
   refine ⟨fun p=>1≤p∧p≤((fewestV c n).length:Int),fun p=>(((fewestV c n).length:Int) - p).toNat,⟨Int.le_refl _,by show (1:Int)≤_;omega⟩,?_⟩
   rintro s ⟨s1,s2⟩
   have hcv:ref06u_choose (c,n,s,[])=chooseN c n s.toNat []:=by
    show chooseN c n (s - ((([]:List Spot).length:Nat):Int)).toNat []=_
    rw [List.length_nil,show (s - ((0:Nat):Int)).toNat=s.toNat by omega]
   have hpre:ref06u_choose_p (c,n,s,[]):=⟨hcb,⟨s1,by show s≤40;omega⟩,fun s hs=>(by cases hs),by show (0:Int)≤s;omega⟩
   have hch:=choose_few hc n0 (m:=s.toNat) (by omega) (by omega)
   rw [←hcv] at hch
   have hin:Z.in64 (s+1):=by simp only [Z.in64];omega
   refine ⟨trivial,trivial,trivial,hpre,fun e=>⟨fun _=>⟨hin,?_⟩,fun hb=>(by cases hb)⟩,fun e=>⟨fun e'=>absurd e' e,fun hb=>(by cases hb),fun _=>⟨trivial,trivial,trivial,hpre,fun e'=>absurd e' e,fun _=>⟨trivial,trivial,?_⟩⟩⟩⟩
   ·rcases hch with hch | hch
    ·exact ⟨⟨by omega,by omega⟩,by show (((fewestV c n).length:Int) - (s+1)).toNat<(((fewestV c n).length:Int) - s).toNat;omega⟩
    ·exact absurd e hch.2.1
   ·rcases hch with hch | hch
    ·exact absurd hch.1 e
    ·rw [hch.1,hfw]
theorem v4 (x:Crate × (List Spot) × Int) (_:k4.pre x):V4 x:=by
 obtain ⟨c,S,n⟩:=x
 refine ⟨trivial,fun _=>⟨trivial,rfl⟩,fun hg=>?_⟩
 have hg:(law06u_great (c,9)||decide ((50:Int)<(S.length:Int)))=false:=hg
 rw [Bool.or_eq_false_iff] at hg
 have g1:=great_len hg.1
 have g2:=of_decide_eq_false hg.2
 have c1:c.1.length≤big:=by simp only [big];omega
 have c2:S.length≤big:=by simp only [big];omega
 have c3:(xray_Fewest (c,n)).1.length≤big:=by
  by_cases he:fewestE c n=0
  ·obtain ⟨⟨hc,n0,n1⟩,hfe⟩:=few_eq he
   have:=(few_is hc n0).max
   have h8:=hc.r8
   have hc8:=hc.c8
   rw [hfe]
   show (fewestV c n).length≤big
   simp only [big];omega
  ·rw [(few_bad he).1]
   exact Nat.zero_le _
 refine ⟨⟨c1,c2⟩,⟨c1,c2⟩,c1,c1,fun _=>⟨c3,c3⟩,fun _=>trivial,?_⟩
 show (((((xray_Missed (c,S)).1==(xray_Missed (c,S)).1)&&((xray_Missed (c,S)).2==(xray_Missed (c,S)).2))&&((xray_Fewest (c,n)).1==(xray_Fewest (c,n)).1))&&((xray_Fewest (c,n)).2==(xray_Fewest (c,n)).2)&&true)=true
 simp
end Go.Xr
