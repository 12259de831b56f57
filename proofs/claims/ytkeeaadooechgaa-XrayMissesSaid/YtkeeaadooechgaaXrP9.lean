/-
  Chapter 6: the fewest places.
-/
import Derived.Test.YtkeeaadooechgaaXrP8
set_option linter.all false
set_option maxRecDepth 100000
set_option maxHeartbeats 4000000
set_option linter.unusedVariables false
namespace Go.Xr
open Go Go.Sx
theorem v45 (x:Plan × Spot) (h:k45.pre x):V45 x:=by
 obtain ⟨⟨_,hr,hk⟩,h1,h2⟩:=h
 have e1:∀ k:Int,(1*2^k.toNat:Int)=2^k.toNat:=fun k=>Int.one_mul _
 refine ⟨shl_ok h1.1 (by omega),⟨hr.1,by rw [e1];exact (pow8 h1).1⟩,shl_ok h2.1 (by omega),⟨hk.1,by rw [e1];exact (pow8 h2).1⟩,?_⟩
 rw [e1,e1];rfl
theorem spot_at {i c:Int} (hi:0≤i) (hc:0<c):Int.tdiv i c*c+Int.tmod i c=i∧0≤Int.tdiv i c∧0≤Int.tmod i c∧Int.tmod i c<c:=by
 have e:=Int.mul_tdiv_add_tmod i c
 rw [Int.mul_comm] at e
 exact ⟨e,Int.tdiv_nonneg hi (by omega),Int.tmod_nonneg _ hi,Int.tmod_lt_of_pos _ hc⟩
theorem spot_in {c:Crate} (hc:CrateOk c) {i:Int} (h0:0≤i) (h:i<allP c):(0≤(spotAt c i).1∧(spotAt c i).1<(c.1.length:Int))∧0≤(spotAt c i).2∧(spotAt c i).2<c.2.1:=by
 have hc1:=hc.c1
 obtain ⟨e,h1,h2,h3⟩:=spot_at (c:=c.2.1) h0 (by omega)
 refine ⟨⟨h1,?_⟩,h2,h3⟩
 show Int.tdiv i c.2.1<_
 refine Int.lt_of_not_ge fun hge=>?_
 have hm:=Int.mul_le_mul_of_nonneg_right hge (show 0≤c.2.1 by omega)
 simp only [allP] at h
 omega
theorem with_ok {p:Plan} {s:Spot} (hp:PlanOk p) (h1:0≤s.1∧s.1<8) (h2:0≤s.2∧s.2<8):PlanOk (withV p s):=⟨hp.crate,small_or hp.rows (pow8 h1),small_or hp.cols (pow8 h2)⟩
theorem from_len:∀ (n:Nat) (p:Plan) (a:Spot),(fromN n p a).length≤n
 | 0,_,_=>Nat.le_refl _
 | n+1,p,a=>by
  rw [fromN]
  split
  ·rename_i s _
   rw [List.length_cons]
   exact Nat.succ_le_succ (from_len n (withV p s) s)
  ·exact Nat.zero_le _
theorem v44 (x:Plan × Spot × Int × Crate × Int) (h:k44.pre x):V44 x:=by
 obtain ⟨p,a,n,c,al⟩:=x
 obtain ⟨hp,⟨⟨ha1,ha2⟩,hb1,hb2⟩,⟨hn0,hn⟩,ha0,ec,ea⟩:=h
 simp only at hp ha1 ha2 hb1 hb2 hn0 hn ha0 ec ea
 subst ec ea
 have hc:=crate_iff.1 hp.crate
 have hr8:=hc.r8
 have hc1:=hc.c1
 have hc8:=hc.c8
 have hm1:=mul_bd (a:=a.1) (b:=p.1.2.1) (A:=8) (B:=8) (by omega) (by omega)
 have hall:0≤allP p.1∧allP p.1≤64:=by
  have:=mul_bd (a:=(p.1.1.length:Int)) (b:=p.1.2.1) (A:=8) (B:=8) (by omega) (by omega)
  simp only [allP]
  omega
 refine ⟨fun he=>⟨rfl,trivial,trivial,?_⟩,fun he=>⟨by simp only [Z.in64];omega,by simp only [Z.in64];omega,by simp only [Z.in64];omega,?_⟩⟩
 ·have he:n=0:=by simpa using he
  subst he;rfl
 ·have he:n≠0:=by simpa using he
  obtain ⟨m,rfl⟩:∃ m:Nat,n=(m:Int)+1:=⟨(n - 1).toNat,by omega⟩
  have hval:xray_Fewest_1 (p,a,(m:Int)+1,p.1,allP p.1)=((match nextV p ((m:Int)+1) (placesV p.1 a) with
   | some s=>s::fromN m (withV p s) s
   | none=>[]),allP p.1):=by
   show (fromN ((m:Int)+1).toNat p a,_)=_
   rw [show ((m:Int)+1).toNat=m+1 by omega,fromN]
   rfl
  refine ⟨fun s=>(a.1*p.1.2.1+a.2+1≤s∧(s≤allP p.1∨s=a.1*p.1.2.1+a.2+1))∧nextV p ((m:Int)+1) (fromTo s (allP p.1))=nextV p ((m:Int)+1) (placesV p.1 a),fun s=>(allP p.1 - s).toNat,⟨⟨Int.le_refl _,.inr rfl⟩,rfl⟩,?_⟩
  rintro s ⟨⟨s1,s2⟩,hs⟩
  refine ⟨fun hlt=>?_,fun hlt=>?_⟩
  ·have hlt:s<allP p.1:=of_decide_eq_true hlt
   have hs0:0≤s:=by omega
   obtain ⟨p1,p2⟩:=spot_in hc hs0 hlt
   have hsp:(0≤(spotAt p.1 s).1∧(spotAt p.1 s).1<8)∧0≤(spotAt p.1 s).2∧(spotAt p.1 s).2<8:=⟨⟨p1.1,by omega⟩,p2.1,by omega⟩
   have hw:=with_ok (s:=spotAt p.1 s) hp ⟨p1.1,by omega⟩ ⟨p2.1,by omega⟩
   have hdz:Z.in64 (Int.tdiv s p.1.2.1):=by
    have h1:0≤Int.tdiv s p.1.2.1:=p1.1
    have h2:Int.tdiv s p.1.2.1<(p.1.1.length:Int):=p1.2
    simp only [Z.in64];omega
   have hcan:xray_plan_can_p (withV p (spotAt p.1 s),spotAt p.1 s,(m:Int)+1 - 1):=⟨hw,⟨⟨by show -1≤(spotAt p.1 s).1;omega,p1.2⟩,by show -1≤(spotAt p.1 s).2;omega,p2.2⟩,by show 0≤(m:Int)+1 - 1;omega,by show (m:Int)+1 - 1≤64;omega⟩
   rw [fromTo_cons hlt,nextV] at hs
   refine ⟨⟨by show p.1.2.1≠0;omega,hdz⟩,by show p.1.2.1≠0;omega,⟨hp,hsp⟩,by simp only [Z.in64];omega,hcan,fun hb=>?_,fun hb=>?_⟩
   ·have hb:canV (withV p (spotAt p.1 s)) (spotAt p.1 s) ((m:Int)+1 - 1)=true:=hb
    rw [hb,cond_true] at hs
    have hfr:(xray_Fewest_1 (withV p (spotAt p.1 s),spotAt p.1 s,(m:Int)+1 - 1,p.1,allP p.1))=(fromN m (withV p (spotAt p.1 s)) (spotAt p.1 s),allP p.1):=by
     show (fromN ((m:Int)+1 - 1).toNat _ _,_)=_
     rw [show ((m:Int)+1 - 1).toNat=m by omega]
    have hfl:=from_len m (withV p (spotAt p.1 s)) (spotAt p.1 s)
    refine ⟨by simp only [Z.in64];omega,⟨⟨⟨hw,hcan.2.1,hcan.2.2,p1.1,rfl,rfl⟩,?_⟩,⟨rfl,trivial,trivial,trivial⟩,trivial⟩,roomy_of (by decide) (by decide) ?_,rfl,trivial,trivial,?_⟩
    ·show ((m:Int)+1 - 1).toNat<((m:Int)+1).toNat
     omega
    ·show ((([spotAt p.1 s]++(xray_Fewest_1 (withV p (spotAt p.1 s),spotAt p.1 s,(m:Int)+1 - 1,p.1,allP p.1)).1).length:Nat):Int)≤_
     rw [hfr,List.length_append]
     simp only [List.length_cons,List.length_nil]
     omega
    ·show ([spotAt p.1 s]++(xray_Fewest_1 (withV p (spotAt p.1 s),spotAt p.1 s,(m:Int)+1 - 1,p.1,allP p.1)).1,(xray_Fewest_1 (withV p (spotAt p.1 s),spotAt p.1 s,(m:Int)+1 - 1,p.1,allP p.1)).2)=_
     rw [hfr,hval,←hs]
     rfl
   ·have hb:canV (withV p (spotAt p.1 s)) (spotAt p.1 s) ((m:Int)+1 - 1)=false:=hb
    rw [hb,cond_false] at hs
    exact ⟨by simp only [Z.in64];omega,rfl,⟨rfl,trivial,trivial,trivial⟩,⟨⟨by omega,.inl (by omega)⟩,hs⟩,by show (allP p.1 - (s+1)).toNat<(allP p.1 - s).toNat;omega⟩
  ·have hlt:¬ s<allP p.1:=of_decide_eq_false hlt
   rw [fromTo_nil (by omega)] at hs
   refine ⟨rfl,trivial,trivial,?_⟩
   rw [hval,←hs]
   rfl
theorem v24 (x:(List Spot) × List Spot) (h:k24.pre x):V24 x:=by
 obtain ⟨h1,h2⟩:=h
 simp only [big] at h1 h2
 refine ⟨fun he=>?_,fun he=>?_⟩
 ·show false=(x.1==x.2)
  symm
  refine beq_eq_false_iff_ne.2 fun e=>?_
  rw [e] at he
  simp at he
 ·have he:(x.1.length:Int)=(x.2.length:Int):=by simpa using he
  refine ⟨fun s=>(0≤s∧s≤(x.1.length:Int))∧x.1.take s.toNat=x.2.take s.toNat,fun s=>((x.1.length:Int) - s).toNat,⟨⟨Int.le_refl _,by omega⟩,rfl⟩,?_⟩
  rintro s ⟨⟨s1,s2⟩,hs⟩
  refine ⟨fun hlt=>?_,fun hlt=>?_⟩
  ·have hlt:s<(x.1.length:Int):=of_decide_eq_true hlt
   refine ⟨⟨s1,hlt⟩,⟨s1,by omega⟩,fun hn=>?_,fun hn=>⟨by simp only [Z.in64];omega,⟨⟨by omega,by omega⟩,?_⟩,by show ((x.1.length:Int) - (s+1)).toNat<((x.1.length:Int) - s).toNat;omega⟩⟩
   ·show false=(x.1==x.2)
    symm
    refine beq_eq_false_iff_ne.2 fun e=>?_
    rw [e] at hn
    simp at hn
   ·have e:x.1.getD s.toNat (0,0)=x.2.getD s.toNat (0,0):=by
     simp only [Bool.not_eq_false',Bool.and_eq_true,beq_iff_eq] at hn
     exact Prod.ext hn.1 hn.2
    rw [take_one x.1 (0,0) s s1 hlt,take_one x.2 (0,0) s s1 (by omega),hs,e]
  ·have hlt:¬ s<(x.1.length:Int):=of_decide_eq_false hlt
   rw [List.take_of_length_le (by omega),List.take_of_length_le (by omega)] at hs
   show true=(x.1==x.2)
   rw [hs];simp
theorem v22 (x:Crate × Int) (h:k22.pre x):V22 x:=by
 have h:x.1.1.length≤big:=h
 have bad:∀ {e:Int},fewestE x.1 x.2=e→(e==0)=false→(([]:List Spot),e)=xray_Fewest x:=by
  intro e he h0
  unfold xray_Fewest
  rw [he,h0];rfl
 refine ⟨h,fun hb=>bad (by have hb:(!crateB x.1)=true:=hb;unfold fewestE;rw [hb];rfl) rfl,fun hb=>⟨trivial,fun hi=>?_,fun hi=>?_⟩⟩
 ·have hb:(!crateB x.1)=false:=hb
  have hi:(!inB x.2 0 1048576)=true:=hi
  exact bad (by unfold fewestE;rw [hb,hi];rfl) rfl
 ·have hb:(!crateB x.1)=false:=hb
  have hi:(!inB x.2 0 1048576)=false:=hi
  have hE:fewestE x.1 x.2=0:=by unfold fewestE;rw [hb,hi];rfl
  have hcb:crateB x.1=true:=by simpa using hb
  have hc:=crate_iff.1 hcb
  have hr1:=hc.r1
  have hr8:=hc.r8
  have hc1:=hc.c1
  have hc8:=hc.c8
  have hall:=mul_bd (a:=(x.1.1.length:Int)) (b:=x.1.2.1) (A:=8) (B:=8) (by omega) (by omega)
  have hp:PlanOk (x.1,x.2,0,0):=⟨hcb,⟨Int.le_refl _,by show (0:Int)≤255;omega⟩,⟨Int.le_refl _,by show (0:Int)≤255;omega⟩⟩
  have hall':allP x.1=(x.1.1.length:Int)*x.1.2.1:=rfl
  rw [←hall'] at hall ⊢
  have stop:∀ s:Int,0≤s→s≤allP x.1→(s.toNat=manyN x.1 x.2 (allP x.1).toNat 0)→(((xray_Fewest_1u_p ((x.1,x.2,0,0),(0,(-1)),s,x.1,allP x.1))∧((((x.1:(Prod (List Int) (Prod Int (Prod Int Int))))=x.1)∧(True∧(True∧True)))∧True))∧((((xray_Fewest_1 ((x.1,x.2,0,0),(0,(-1)),s,x.1,allP x.1)).1,0):(Prod (List (Prod Int Int)) Int))=(xray_Fewest x))):=by
   intro s s1 s2 s3
   refine ⟨⟨⟨hp,⟨⟨by show (-1:Int)≤0;omega,by show (0:Int)<(x.1.1.length:Int);omega⟩,by show (-1:Int)≤-1;omega,by show (-1:Int)<x.1.2.1;omega⟩,⟨s1,by show s≤64;omega⟩,Int.le_refl _,rfl,rfl⟩,⟨rfl,trivial,trivial,trivial⟩,trivial⟩,?_⟩
   unfold xray_Fewest
   rw [hE]
   show (fromN s.toNat (x.1,x.2,0,0) (0,-1),0)=(fewestV x.1 x.2,0)
   rw [s3];rfl
  refine ⟨by simp only [Z.in64];omega,fun s=>(0≤s∧s≤allP x.1)∧manyN x.1 x.2 (allP x.1 - s).toNat s.toNat=manyN x.1 x.2 (allP x.1).toNat 0,fun s=>(allP x.1 - s).toNat,⟨⟨Int.le_refl _,hall.1⟩,by rw [Int.sub_zero];rfl⟩,?_⟩
  rintro s ⟨⟨s1,s2⟩,hs⟩
  by_cases hlt:s<allP x.1
  ·have hd:decide (s<allP x.1)=true:=decide_eq_true hlt
   rw [show (allP x.1 - s).toNat=(allP x.1 - (s+1)).toNat+1 by omega,manyN,show ((s.toNat:Nat):Int)=s by omega,show s.toNat+1=(s+1).toNat by omega] at hs
   refine ⟨fun _=>⟨hp,⟨⟨by show (-1:Int)≤-1;omega,by show (-1:Int)<(x.1.1.length:Int);omega⟩,by show (-1:Int)≤-1;omega,by show (-1:Int)<x.1.2.1;omega⟩,s1,by show s≤64;omega⟩,fun hcn=>?_,fun hcn=>?_⟩
   ·have hcn:(decide (s<allP x.1)&&!canV (plan0 x.1 x.2) (-1,-1) s)=true:=hcn
    rw [hd,Bool.true_and,Bool.not_eq_true'] at hcn
    rw [hcn,cond_false] at hs
    exact ⟨by simp only [Z.in64];omega,rfl,⟨⟨by omega,by omega⟩,hs⟩,by show (allP x.1 - (s+1)).toNat<(allP x.1 - s).toNat;omega⟩
   ·have hcn:(decide (s<allP x.1)&&!canV (plan0 x.1 x.2) (-1,-1) s)=false:=hcn
    rw [hd,Bool.true_and,Bool.not_eq_false'] at hcn
    rw [hcn,cond_true] at hs
    exact stop s s1 s2 hs
  ·have hd:decide (s<allP x.1)=false:=decide_eq_false hlt
   rw [show (allP x.1 - s).toNat=0 by omega,manyN] at hs
   refine ⟨fun hh=>?_,fun hcn=>?_,fun _=>stop s s1 s2 hs⟩
   ·have hh:decide (s<allP x.1)=true:=hh
    rw [hd] at hh;cases hh
   ·have hcn:(decide (s<allP x.1)&&!canV (plan0 x.1 x.2) (-1,-1) s)=true:=hcn
    rw [hd,Bool.false_and] at hcn;cases hcn
end Go.Xr
