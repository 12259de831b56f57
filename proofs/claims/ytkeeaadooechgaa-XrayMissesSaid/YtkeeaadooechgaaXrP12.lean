/-
  Chapter 6: conditions of the reference's functions.
-/
import Derived.Test.YtkeeaadooechgaaXrP11
import Derived.Test.YtkeeaadooechgaaXrAuto2
set_option linter.all false
set_option maxRecDepth 100000
set_option maxHeartbeats 4000000
set_option linter.unusedVariables false
namespace Go.Xr
open Go Go.Sx
theorem tabs_ok2:TabsOk Go.Proofs.Try.prog T2:=by
 refine ⟨by kernel_rfl,fun p hp=>?_⟩
 simp only [T2,List.not_mem_nil] at hp
theorem v46 (x:Int × Int × Int) (_:k46.pre x):V46 x:=rfl
theorem pow_bd {k:Int} (h:k≤60):(1:Int)≤2^k.toNat∧(2:Int)^k.toNat≤1152921504606846976:=by
 rw [pow_int]
 have h1:2^k.toNat≤2^60:=Nat.pow_le_pow_right (by decide) (by omega)
 have h2:0<2^k.toNat:=Nat.pow_pos (by decide)
 omega
theorem v39 (x:Int) (h:k39.pre x):V39 x:=by
 have h:0≤x∧x≤60:=h
 refine ⟨fun s=>(0≤s.2∧s.2≤x)∧s.1=2^s.2.toNat,fun s=>(x - s.2).toNat,⟨⟨Int.le_refl _,h.1⟩,rfl⟩,?_⟩
 rintro ⟨p,k⟩ ⟨⟨k1,k2⟩,hp⟩
 simp only at k1 k2 hp
 subst hp
 refine ⟨fun hk=>?_,fun hk=>?_⟩
 ·have hk:k<x:=of_decide_eq_true hk
  have hb:=pow_bd (k:=k) (by omega)
  have e:(2:Int)^(k+1).toNat=2*2^k.toNat:=by
   rw [show (k+1).toNat=k.toNat+1 by omega,Int.pow_succ,Int.mul_comm]
  refine ⟨by simp only [Z.in64];omega,by simp only [Z.in64];omega,⟨⟨by show 0≤k+1;omega,by show k+1≤x;omega⟩,?_⟩,by show (x - (k+1)).toNat<(x - k).toNat;omega⟩
  show _=(2:Int)^(k+1).toNat
  rw [e]
 ·have hk:¬ k<x:=of_decide_eq_false hk
  have:k=x:=by omega
  subst this;rfl
theorem has_tdiv {s n:Int} (hs:0≤s) (hn:0≤n):(Int.tmod (Int.tdiv s (2^n.toNat)) 2==1)=hasB s n:=by
 obtain ⟨m,rfl⟩:=Int.eq_ofNat_of_zero_le hs
 rw [pow_int,←Int.ofNat_tdiv,show (2:Int)=((2:Nat):Int) from rfl,←Int.ofNat_tmod]
 simp only [hasB,Int.toNat_natCast,Nat.testBit_eq_decide_div_mod_eq]
 rw [Bool.eq_iff_iff]
 simp only [beq_iff_eq,decide_eq_true_eq]
 omega
theorem tdiv_in {s p:Int} (hs:0≤s) (h:s≤9223372036854775807):Z.in64 (Int.tdiv s p):=by
 have:=Int.natAbs_tdiv_le_natAbs s p
 simp only [Z.in64]
 omega
theorem v49 (x:Int) (h:k49.pre x):V49 x:=by
 have h:smallSet x:=h
 have es:sizeV x=(((idx 8).countP fun k=>hasB x k:Nat):Int):=by
  unfold sizeV idx
  rw [List.countP_map]
  rfl
 refine ⟨fun s=>(0≤s.2∧s.2≤8)∧s.1=(((idx 8).take s.2.toNat).countP fun k=>hasB x k:Nat),fun s=>(8 - s.2).toNat,⟨⟨by decide,by decide⟩,rfl⟩,?_⟩
 rintro ⟨n,k⟩ ⟨⟨k1,k2⟩,hn⟩
 simp only at k1 k2 hn
 subst hn
 have hcp:=List.countP_le_length (p:=fun k=>hasB x k) (l:=(idx 8).take k.toNat)
 rw [List.length_take,idx_len] at hcp
 refine ⟨fun hk=>?_,fun hk=>?_⟩
 ·have hk:k<8:=of_decide_eq_true hk
  have et:=idx_take (n:=8) (k:=k) k1 hk
  refine ⟨⟨h,k1,by show k≤60;omega⟩,fun hb=>⟨by simp only [Z.in64];omega,by simp only [Z.in64];omega,⟨⟨by show 0≤k+1;omega,by show k+1≤8;omega⟩,?_⟩,by show (8 - (k+1)).toNat<(8 - k).toNat;omega⟩,fun hb=>⟨by simp only [Z.in64];omega,⟨⟨by show 0≤k+1;omega,by show k+1≤8;omega⟩,?_⟩,by show (8 - (k+1)).toNat<(8 - k).toNat;omega⟩⟩
  ·show (_:Int)=((((idx 8).take (k+1).toNat).countP fun k=>hasB x k:Nat):Int)
   have hb:hasB x k=true:=hb
   rw [et,List.countP_append,List.countP_cons,List.countP_nil,hb]
   simp
  ·show (_:Int)=((((idx 8).take (k+1).toNat).countP fun k=>hasB x k:Nat):Int)
   have hb:hasB x k=false:=hb
   rw [et,List.countP_append,List.countP_cons,List.countP_nil,hb]
   simp
 ·have hk:¬ k<8:=of_decide_eq_false hk
  show _=sizeV x
  rw [es]
  have:=take_all (n:=8) (k:=k) (by omega)
  rw [this]
theorem v28 (x:Crate) (h:k28.pre x):V28 x:=by
 have h:x.1.length≤big:=h
 simp only [big] at h
 refine ⟨fun s=>(0≤s∧s≤(x.1.length:Int))∧(x.1.drop s.toNat).all (fun n=>inB n 1 1000)=x.1.all fun n=>inB n 1 1000,fun s=>((x.1.length:Int) - s).toNat,⟨⟨Int.le_refl _,by omega⟩,rfl⟩,?_⟩
 rintro s ⟨⟨s1,s2⟩,hs⟩
 refine ⟨fun hk=>?_,fun hk=>?_⟩
 ·have hk:s<(x.1.length:Int):=of_decide_eq_true hk
  rw [all_drop _ x.1 0 s s1 hk] at hs
  refine ⟨⟨s1,hk⟩,trivial,fun hb=>?_,fun hb=>⟨by simp only [Z.in64];omega,⟨⟨by omega,by omega⟩,?_⟩,by show ((x.1.length:Int) - (s+1)).toNat<((x.1.length:Int) - s).toNat;omega⟩⟩
  ·have hb:inB (x.1.getD s.toNat 0) 1 1000=false:=by simpa using (show (!inB (x.1.getD s.toNat 0) 1 1000)=true from hb)
   rw [hb,Bool.false_and] at hs
   show false=crateB x
   rw [crateB,←hs,Bool.and_false,Bool.false_and]
  ·have hb:inB (x.1.getD s.toNat 0) 1 1000=true:=by simpa using (show (!inB (x.1.getD s.toNat 0) 1 1000)=false from hb)
   rw [hb,Bool.true_and] at hs
   exact hs
 ·have hk:¬ s<(x.1.length:Int):=of_decide_eq_false hk
  rw [List.drop_eq_nil_of_le (by omega)] at hs
  refine ⟨trivial,fun _=>trivial,fun _=>trivial,fun _=>trivial,?_⟩
  show (((inB (x.1.length:Int) 1 8&&inB x.2.1 1 8)&&inB x.2.2.1 0 3)&&inB x.2.2.2 0 3)=crateB x
  rw [crateB,←hs,List.all_nil,Bool.and_true,Bool.and_assoc]
theorem v32 (x:Truth × Int × Int) (h:k32.pre x):V32 x:=by
 obtain ⟨⟨h1,h2⟩,h3,h4⟩:=h
 exact ⟨⟨h1,h3.1,by show x.2.1≤60;omega⟩,fun _=>⟨h2,h4.1,by show x.2.2≤60;omega⟩,rfl⟩
theorem v35 (x:Crate × Int × Int) (h:k35.pre x):V35 x:=by
 have hc:=crate_iff.1 (show crateB x.1=true from h)
 have h8:=hc.r8
 have h1:=hc.c1
 have hc8:=hc.c8
 exact ⟨by simp only [Z.in64];omega,trivial,fun _=>by simp only [Z.in64];omega,fun _=>trivial,rfl⟩
theorem size_cols {s:Int} {n:Nat} (hn:n≤8) (h0:0≤s) (h:s<2^n):sizeV s=(((idx n).countP fun k=>hasB s k:Nat):Int):=by
 unfold sizeV
 have e:List.range 8=List.range n++(List.range (8 - n)).map fun k=>n+k:=by
  rw [show (8:Nat)=n+(8 - n) by omega,List.range_add,Nat.add_sub_cancel_left]
 have e2:((List.range (8 - n)).map fun k=>n+k).countP (fun k=>hasB s (k:Nat))=0:=by
  rw [List.countP_eq_zero]
  intro k hk
  obtain ⟨j,_,rfl⟩:=List.mem_map.1 hk
  simp only [hasB,Int.toNat_natCast]
  rw [Nat.testBit_lt_two_pow]
  ·simp
  ·have:s.toNat<2^n:=by
    have:((s.toNat:Nat):Int)<((2^n:Nat):Int):=by
     rw [Int.toNat_of_nonneg h0]
     simpa using h
    exact_mod_cast this
   exact Nat.lt_of_lt_of_le this (Nat.pow_le_pow_right (by decide) (by omega))
 have e3:(idx n).countP (fun k=>hasB s k)=(List.range n).countP fun k=>hasB s (k:Nat):=by
  unfold idx
  rw [List.countP_map]
  rfl
 rw [e,List.countP_append,e2,e3,Nat.add_zero]
theorem v31 (x:Crate × Truth) (h:k31.pre x):V31 x:=by
 obtain ⟨hc0,ht,hlt2⟩:=h
 have hc:=crate_iff.1 hc0
 have hr8:=hc.r8
 have hc1:=hc.c1
 have hc8:=hc.c8
 have hn:((x.1.2.1.toNat:Nat):Int)=x.1.2.1:=by omega
 refine ⟨fun s=>(0≤s.2∧s.2≤(x.1.1.length:Int))∧s.1=manyR x.2 x.1.2.1 (x.1.1.take s.2.toNat) 0,fun s=>((x.1.1.length:Int) - s.2).toNat,⟨⟨by simp,by simp⟩,rfl⟩,?_⟩
 rintro ⟨m,r⟩ ⟨⟨r1,r2⟩,hm⟩
 simp only at r1 r2 hm
 subst hm
 refine ⟨fun hk=>?_,fun hk=>?_⟩
 ·have hk:r<(x.1.1.length:Int):=of_decide_eq_true hk
  have hlie:=hc.lie _ (getD_mem' x.1.1 0 r r1 hk)
  have hb:=manyR_bd (t:=x.2) (cols:=x.1.2.1) ⟨hc1,hc8⟩ (l:=x.1.1.take r.toNat) (k:=0) fun n hn=>hc.lie n (List.mem_of_mem_take hn)
  have hlen:((x.1.1.take r.toNat).length:Int)=r:=by rw [List.length_take];omega
  have estep:=manyR_app (t:=x.2) (cols:=x.1.2.1) (x.1.1.getD r.toNat 0) (x.1.1.take r.toNat) 0
  rw [←take_one x.1.1 0 r r1 hk,Nat.zero_add,hlen] at estep
  rw [hlen] at hb
  generalize manyR x.2 x.1.2.1 (x.1.1.take r.toNat) 0=M at hb estep
  refine ⟨fun s=>(0≤s.2∧s.2≤x.1.2.1)∧s.1=M+x.1.1.getD r.toNat 0*(((idx x.1.2.1.toNat).take s.2.toNat).countP fun k=>badB x.2 r k:Nat),fun s=>(x.1.2.1 - s.2).toNat,⟨⟨by show (0:Int)≤0;omega,by show 0≤x.1.2.1;omega⟩,by simp⟩,?_⟩
  rintro ⟨n,k⟩ ⟨⟨k1,k2⟩,hnn⟩
  simp only at k1 k2 hnn
  subst hnn
  have hcp:=List.countP_le_length (p:=fun k=>badB x.2 r k) (l:=(idx x.1.2.1.toNat).take k.toNat)
  rw [List.length_take,idx_len] at hcp
  have hmul:=mul_bd (a:=x.1.1.getD r.toNat 0) (b:=((((idx x.1.2.1.toNat).take k.toNat).countP fun k=>badB x.2 r k:Nat):Int)) (A:=1000) (B:=8) (by omega) (by omega)
  refine ⟨fun hk2=>?_,fun hk2=>?_⟩
  ·have hk2:k<x.1.2.1:=of_decide_eq_true hk2
   have et:=idx_take (n:=x.1.2.1.toNat) (k:=k) k1 (by omega)
   refine ⟨⟨ht,⟨r1,by show r<8;omega⟩,k1,by show k<8;omega⟩,fun hb'=>⟨⟨r1,hk⟩,by simp only [Z.in64];omega,by simp only [Z.in64];omega,⟨⟨by show 0≤k+1;omega,by show k+1≤_;omega⟩,?_⟩,by show (x.1.2.1 - (k+1)).toNat<(x.1.2.1 - k).toNat;omega⟩,fun hb'=>⟨by simp only [Z.in64];omega,⟨⟨by show 0≤k+1;omega,by show k+1≤_;omega⟩,?_⟩,by show (x.1.2.1 - (k+1)).toNat<(x.1.2.1 - k).toNat;omega⟩⟩
   ·have hb':badB x.2 r k=true:=hb'
    show _=M+x.1.1.getD r.toNat 0*(((((idx x.1.2.1.toNat).take (k+1).toNat).countP fun k=>badB x.2 r k:Nat)):Int)
    rw [et,List.countP_append,List.countP_cons,List.countP_nil,hb']
    simp only [if_true,Nat.zero_add,Int.natCast_add,Int.mul_add,Int.natCast_one,Int.mul_one]
    show M+_+_=_
    omega
   ·have hb':badB x.2 r k=false:=hb'
    show _=M+x.1.1.getD r.toNat 0*(((((idx x.1.2.1.toNat).take (k+1).toNat).countP fun k=>badB x.2 r k:Nat)):Int)
    rw [et,List.countP_append,List.countP_cons,List.countP_nil,hb']
    simp
  ·have hk2:¬ k<x.1.2.1:=of_decide_eq_false hk2
   refine ⟨by simp only [Z.in64];omega,⟨⟨by show 0≤r+1;omega,by show r+1≤_;omega⟩,?_⟩,by show ((x.1.1.length:Int) - (r+1)).toNat<((x.1.1.length:Int) - r).toNat;omega⟩
   show _=manyR x.2 x.1.2.1 (x.1.1.take (r+1).toNat) 0
   rw [estep,take_all (by omega)]
   congr 1
   cases hbr:hasB x.2.1 r with
   | true =>
    have:(idx x.1.2.1.toNat).countP (fun k=>badB x.2 r k)=(idx x.1.2.1.toNat).length:=by
     rw [List.countP_eq_length]
     intro k _
     show (hasB x.2.1 r||hasB x.2.2 k)=true
     rw [hbr];rfl
    rw [this,idx_len,hn];rfl
   | false =>
    have:(fun k=>badB x.2 r k)=fun k=>hasB x.2.2 k:=by
     funext k
     show (hasB x.2.1 r||hasB x.2.2 k)=_
     rw [hbr,Bool.false_or]
    rw [this,←size_cols (n:=x.1.2.1.toNat) (by omega) ht.2.1 hlt2];rfl
 ·have hk:¬ r<(x.1.1.length:Int):=of_decide_eq_false hk
  rw [List.take_of_length_le (by omega)]
  rfl
theorem fit_alt (t:Truth) (l:Look):(((l.2.2==0)&&badB t l.1 l.2.1)||((l.2.2==1)&&!badB t l.1 l.2.1))=!fitB t l:=by
 unfold fitB
 cases h0:l.2.2==0 with
 | true =>
  have:(l.2.2==1)=false:=by simp at h0;rw [h0];rfl
  rw [this]
  cases badB t l.1 l.2.1<;>rfl
 | false=>cases l.2.2==1<;>cases badB t l.1 l.2.1<;>rfl
theorem v50 (x:Truth × List Look) (h:k50.pre x):V50 x:=by
 obtain ⟨ht,hl,hlen⟩:=h
 simp only [big] at hlen
 refine ⟨fun s=>(0≤s∧s≤(x.2.length:Int))∧(x.2.drop s.toNat).all (fitB x.1)=x.2.all (fitB x.1),fun s=>((x.2.length:Int) - s).toNat,⟨⟨Int.le_refl _,by omega⟩,rfl⟩,?_⟩
 rintro s ⟨⟨s1,s2⟩,hs⟩
 refine ⟨fun hk=>?_,fun hk=>?_⟩
 ·have hk:s<(x.2.length:Int):=of_decide_eq_true hk
  rw [all_drop _ x.2 (0,0,0) s s1 hk] at hs
  have hm:=hl _ (getD_mem' x.2 (0,0,0) s s1 hk)
  have ha:=fit_alt x.1 (x.2.getD s.toNat (0,0,0))
  refine ⟨⟨s1,hk⟩,⟨s1,hk⟩,⟨ht,hm⟩,⟨s1,hk⟩,fun _=>⟨s1,hk⟩,fun hb=>?_,fun hb=>⟨by simp only [Z.in64];omega,⟨⟨by omega,by omega⟩,?_⟩,by show ((x.2.length:Int) - (s+1)).toNat<((x.2.length:Int) - s).toNat;omega⟩⟩
  ·have hb:=ha.symm.trans hb
   rw [Bool.not_eq_true'] at hb
   rw [hb,Bool.false_and] at hs
   exact hs
  ·have hb:=ha.symm.trans hb
   rw [Bool.not_eq_false'] at hb
   rw [hb,Bool.true_and] at hs
   exact hs
 ·have hk:¬ s<(x.2.length:Int):=of_decide_eq_false hk
  rw [List.drop_eq_nil_of_le (by omega)] at hs
  exact hs
theorem v56 (x:Crate × List Look) (h:k56.pre x):V56 x:=by
 obtain ⟨hc,hlen⟩:=h
 simp only [big] at hlen
 refine ⟨fun s=>(0≤s∧s≤(x.2.length:Int))∧(x.2.drop s.toNat).all (lookB x.1)=x.2.all (lookB x.1),fun s=>((x.2.length:Int) - s).toNat,⟨⟨Int.le_refl _,by omega⟩,rfl⟩,?_⟩
 rintro s ⟨⟨s1,s2⟩,hs⟩
 refine ⟨fun hk=>?_,fun hk=>?_⟩
 ·have hk:s<(x.2.length:Int):=of_decide_eq_true hk
  rw [all_drop _ x.2 (0,0,0) s s1 hk] at hs
  have ha:((!placeB x.1 (x.2.getD s.toNat (0,0,0)).1 (x.2.getD s.toNat (0,0,0)).2.1)||(!inB (x.2.getD s.toNat (0,0,0)).2.2 0 2))=!lookB x.1 (x.2.getD s.toNat (0,0,0)):=by rw [lookB,Bool.not_and]
  refine ⟨⟨s1,hk⟩,⟨s1,hk⟩,hc,fun _=>⟨s1,hk⟩,fun _=>trivial,fun hb=>?_,fun hb=>⟨by simp only [Z.in64];omega,⟨⟨by omega,by omega⟩,?_⟩,by show ((x.2.length:Int) - (s+1)).toNat<((x.2.length:Int) - s).toNat;omega⟩⟩
  ·have hb:=ha.symm.trans hb
   rw [Bool.not_eq_true'] at hb
   rw [hb,Bool.false_and] at hs
   exact hs
  ·have hb:=ha.symm.trans hb
   rw [Bool.not_eq_false'] at hb
   rw [hb,Bool.true_and] at hs
   exact hs
 ·have hk:¬ s<(x.2.length:Int):=of_decide_eq_false hk
  rw [List.drop_eq_nil_of_le (by omega)] at hs
  exact hs
theorem v37 (x:Crate × List Look) (h:k37.pre x):V37 x:=by
 obtain ⟨hr,hl⟩:=h
 obtain ⟨o1,o2,o3,o4⟩:=openE_cases x.1 x.2 true
 have bad:∀ {e:Int},openE x.1 x.2 true=e→(e==0)=false→(([]:List Truth),e)=ref06u_start x:=by
  intro e he h0
  unfold ref06u_start
  rw [he,h0];rfl
 refine ⟨hr,fun hb=>bad (o1 (by have hb:(!crateB x.1)=true:=hb;simpa using hb)) rfl,fun hb=>⟨fun hlt=>?_,fun hlt=>?_⟩⟩
 ·have hb:crateB x.1=true:=by have hb:(!crateB x.1)=false:=hb;simpa using hb
  exact bad (o2 hb (of_decide_eq_true hlt)) rfl
 ·have hb:crateB x.1=true:=by have hb:(!crateB x.1)=false:=hb;simpa using hb
  have hlt:=of_decide_eq_false hlt
  refine ⟨⟨hb,hl⟩,fun hk=>?_,fun hk=>?_⟩
  ·have hk:x.2.all (lookB x.1)=false:=by have hk:(!x.2.all (lookB x.1))=true:=hk;simpa using hk
   exact bad (o3 hb hlt (.inr hk)) rfl
  ·have hk:x.2.all (lookB x.1)=true:=by have hk:(!x.2.all (lookB x.1))=false:=hk;simpa using hk
   have hE:=openE_val x.1 x.2 true (crate_iff.1 hb) (by omega) rfl hk
   refine ⟨⟨hb,hk,hl⟩,fun hz=>?_,fun hz=>?_⟩
   ·have hz:((fitsL x.1 x.2).length:Int)=0:=by simpa using (show (((fitsL x.1 x.2).length:Int)==0)=true from hz)
    have:fitsL x.1 x.2=[]:=List.eq_nil_of_length_eq_zero (by omega)
    rw [this] at hE
    exact bad hE rfl
   ·have hz:(((fitsL x.1 x.2).length:Int)==0)=false:=hz
    have hne:(fitsL x.1 x.2).isEmpty=false:=by
     cases hfl:fitsL x.1 x.2 with
     | nil=>rw [hfl] at hz;cases hz
     | cons a m=>rfl
    rw [hne] at hE
    unfold ref06u_start
    rw [hE];rfl
end Go.Xr
