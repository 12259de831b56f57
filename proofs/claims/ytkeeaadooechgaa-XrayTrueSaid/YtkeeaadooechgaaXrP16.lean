/-
  Chapter 6: truths and looks that the statements make.
-/
import Derived.Test.YtkeeaadooechgaaXrP14
import Derived.Test.YtkeeaadooechgaaXrP8
set_option linter.all false
set_option maxRecDepth 100000
set_option maxHeartbeats 4000000
set_option linter.unusedVariables false
namespace Go.Xr
open Go Go.Sx
theorem fdiv_nn {s n:Int} (hs:0≤s):(0:Int)≤Int.fdiv s (2^n.toNat):=by
 rw [Int.fdiv_eq_ediv_of_nonneg _ (Int.le_of_lt (Int.pow_pos (by decide)))]
 exact Int.ediv_nonneg hs (Int.le_of_lt (Int.pow_pos (by decide)))
theorem v29 (x:Crate × Int × Int) (h:k29.pre x):V29 x:=by
 obtain ⟨hc0,hr,hk⟩:=h
 have hc:=crate_iff.1 hc0
 have hr8:=hc.r8
 have hc1:=hc.c1
 have hc8:=hc.c8
 have hn:((x.1.2.1.toNat:Nat):Int)=x.1.2.1:=by omega
 refine ⟨fun s=>(0≤s.2.1∧s.2.1≤(x.1.1.length:Int))∧((0≤s.1∧s.1≤s.2.1)∧smallSet s.2.2.1∧s.2.2.2=0)∧pickL x.2.1 x.1.2.2.1 ((idx x.1.1.length).drop s.2.1.toNat) s.1 s.2.2.1=pickL x.2.1 x.1.2.2.1 (idx x.1.1.length) 0 0,fun s=>((x.1.1.length:Int) - s.2.1).toNat,⟨⟨by show (0:Int)≤0;omega,by show (0:Int)≤_;omega⟩,⟨⟨Int.le_refl _,Int.le_refl _⟩,⟨Int.le_refl _,by show (0:Int)≤255;omega⟩,rfl⟩,rfl⟩,?_⟩
 rintro ⟨n,i,rs,cs⟩ ⟨⟨i1,i2⟩,⟨⟨n1,n2⟩,hs,hz⟩,hp⟩
 simp only at i1 i2 n1 n2 hs hz hp
 subst hz
 refine ⟨fun hlt=>?_,fun hlt=>?_⟩
 ·have hlt:i<(x.1.1.length:Int):=of_decide_eq_true hlt
  rw [idx_drop_cons i1 hlt,pickL] at hp
  have hb:((((Int.toNat ((Int.fdiv x.2.1 (2^(Int.toNat (i)))))) &&& (Int.toNat (1)):Nat):Int)==1)=hasB x.2.1 i:=has_div hr.1 i1
  have e1:(1*2^i.toNat:Int)=2^i.toNat:=Int.one_mul _
  have hp8:=pow8 (r:=i) ⟨i1,by omega⟩
  refine ⟨⟨i1,by show i≤8;omega⟩,⟨fdiv_nn hr.1,by decide⟩,fun hg=>?_,fun hg=>?_⟩
  ·have hg:(hasB x.2.1 i&&decide (n<x.1.2.2.1))=true:=by rw [←hb];exact hg
   rw [hg,cond_true] at hp
   refine ⟨by simp only [Z.in64];omega,shl_ok i1 (by show i<62;omega),⟨hs.1,by rw [e1];exact hp8.1⟩,by simp only [Z.in64];omega,rfl,⟨⟨by show 0≤i+1;omega,by show i+1≤_;omega⟩,⟨⟨by show 0≤n+1;omega,by show n+1≤i+1;omega⟩,?_,rfl⟩,?_⟩,by show ((x.1.1.length:Int) - (i+1)).toNat<((x.1.1.length:Int) - i).toNat;omega⟩
   ·show smallSet (orI rs (1*2^i.toNat))
    rw [e1];exact small_or hs hp8
   ·show pickL x.2.1 x.1.2.2.1 ((idx x.1.1.length).drop (i+1).toNat) (n+1) (orI rs (1*2^i.toNat))=_
    rw [e1];exact hp
  ·have hg:(hasB x.2.1 i&&decide (n<x.1.2.2.1))=false:=by rw [←hb];exact hg
   rw [hg,cond_false] at hp
   exact ⟨by simp only [Z.in64];omega,rfl,⟨⟨by show 0≤i+1;omega,by show i+1≤_;omega⟩,⟨⟨n1,by show n≤i+1;omega⟩,hs,rfl⟩,hp⟩,by show ((x.1.1.length:Int) - (i+1)).toNat<((x.1.1.length:Int) - i).toNat;omega⟩
 ·have hlt:¬ i<(x.1.1.length:Int):=of_decide_eq_false hlt
  have e:(idx x.1.1.length).drop i.toNat=[]:=List.drop_eq_nil_of_le (by rw [idx_len];omega)
  rw [e,pickL] at hp
  refine ⟨fun s=>(0≤s.2.1∧s.2.1≤x.1.2.1)∧((0≤s.1∧s.1≤s.2.1)∧smallSet s.2.2.2∧s.2.2.1=rs)∧pickL x.2.2 x.1.2.2.2 ((idx x.1.2.1.toNat).drop s.2.1.toNat) s.1 s.2.2.2=pickL x.2.2 x.1.2.2.2 (idx x.1.2.1.toNat) 0 0,fun s=>(x.1.2.1 - s.2.1).toNat,⟨⟨by show (0:Int)≤0;omega,by show 0≤x.1.2.1;omega⟩,⟨⟨Int.le_refl _,Int.le_refl _⟩,⟨Int.le_refl _,by show (0:Int)≤255;omega⟩,rfl⟩,rfl⟩,?_⟩
  rintro ⟨n,j,r',cs⟩ ⟨⟨j1,j2⟩,⟨⟨n1,n2⟩,hs2,hz⟩,hp2⟩
  simp only at j1 j2 n1 n2 hs2 hz hp2
  subst hz
  refine ⟨fun hlt2=>?_,fun hlt2=>?_⟩
  ·have hlt2:j<x.1.2.1:=of_decide_eq_true hlt2
   rw [idx_drop_cons j1 (by omega),pickL] at hp2
   have hb:((((Int.toNat ((Int.fdiv x.2.2 (2^(Int.toNat (j)))))) &&& (Int.toNat (1)):Nat):Int)==1)=hasB x.2.2 j:=has_div hk.1 j1
   have e1:(1*2^j.toNat:Int)=2^j.toNat:=Int.one_mul _
   have hp8:=pow8 (r:=j) ⟨j1,by omega⟩
   refine ⟨⟨j1,by show j≤8;omega⟩,⟨fdiv_nn hk.1,by decide⟩,fun hg=>?_,fun hg=>?_⟩
   ·have hg:(hasB x.2.2 j&&decide (n<x.1.2.2.2))=true:=by rw [←hb];exact hg
    rw [hg,cond_true] at hp2
    refine ⟨by simp only [Z.in64];omega,shl_ok j1 (by show j<62;omega),⟨hs2.1,by rw [e1];exact hp8.1⟩,by simp only [Z.in64];omega,rfl,⟨⟨by show 0≤j+1;omega,by show j+1≤_;omega⟩,⟨⟨by show 0≤n+1;omega,by show n+1≤j+1;omega⟩,?_,rfl⟩,?_⟩,by show (x.1.2.1 - (j+1)).toNat<(x.1.2.1 - j).toNat;omega⟩
    ·show smallSet (orI cs (1*2^j.toNat))
     rw [e1];exact small_or hs2 hp8
    ·show pickL x.2.2 x.1.2.2.2 ((idx x.1.2.1.toNat).drop (j+1).toNat) (n+1) (orI cs (1*2^j.toNat))=_
     rw [e1];exact hp2
   ·have hg:(hasB x.2.2 j&&decide (n<x.1.2.2.2))=false:=by rw [←hb];exact hg
    rw [hg,cond_false] at hp2
    exact ⟨by simp only [Z.in64];omega,rfl,⟨⟨by show 0≤j+1;omega,by show j+1≤_;omega⟩,⟨⟨n1,by show n≤j+1;omega⟩,hs2,rfl⟩,hp2⟩,by show (x.1.2.1 - (j+1)).toNat<(x.1.2.1 - j).toNat;omega⟩
  ·have hlt2:¬ j<x.1.2.1:=of_decide_eq_false hlt2
   have e:(idx x.1.2.1.toNat).drop j.toNat=[]:=List.drop_eq_nil_of_le (by rw [idx_len];omega)
   rw [e,pickL] at hp2
   show (r',cs)=truthV x.1 x.2.1 x.2.2
   unfold truthV
   rw [←hp2,←hp]
theorem mod_at {n m:Int} (h0:0≤n) (hm:0<m):0≤Int.tmod n m∧Int.tmod n m<m:=⟨Int.tmod_nonneg _ h0,Int.tmod_lt_of_pos _ hm⟩
theorem see_at {c:Crate} (hc:CrateOk c) {n:Int} (h:0≤n):(0≤Int.tmod n (c.1.length:Int)∧Int.tmod n (c.1.length:Int)<(c.1.length:Int))∧0≤Int.tmod (Int.fdiv n 16) c.2.1∧Int.tmod (Int.fdiv n 16) c.2.1<c.2.1:=by
 have h1:=hc.r1
 have h2:=hc.c1
 have h3:0≤Int.fdiv n 16:=by
  rw [Int.fdiv_eq_ediv_of_nonneg _ (by decide)]
  exact Int.ediv_nonneg h (by decide)
 exact ⟨mod_at h (by omega),mod_at h3 (by omega)⟩
theorem v30 (x:Crate × Truth × List Int) (h:k30.pre x):V30 x:=by
 obtain ⟨hc0,ht,hb,hl⟩:=h
 have hc:=crate_iff.1 hc0
 have hr1:=hc.r1
 have hr8:=hc.r8
 have hc1:=hc.c1
 have hc8:=hc.c8
 refine ⟨fun s=>(0≤s.2∧s.2≤(x.2.2.length:Int))∧s.1=(x.2.2.take s.2.toNat).map (seeV x.1 x.2.1),fun s=>((x.2.2.length:Int) - s.2).toNat,⟨⟨by show (0:Int)≤0;omega,by show (0:Int)≤_;omega⟩,rfl⟩,?_⟩
 rintro ⟨s,k⟩ ⟨⟨k1,k2⟩,hs⟩
 simp only at k1 k2 hs
 subst hs
 refine ⟨fun hlt=>?_,fun hlt=>?_⟩
 ·have hlt:k<(x.2.2.length:Int):=of_decide_eq_true hlt
  have hm:=hb _ (getD_mem' x.2.2 0 k k1 hlt)
  have et:=take_one x.2.2 0 k k1 hlt
  have hat:=see_at hc hm.1
  have hnext:∀ y:Look,y=seeV x.1 x.2.1 (x.2.2.getD k.toNat 0)→((0≤k+1∧k+1≤(x.2.2.length:Int))∧(x.2.2.take k.toNat).map (seeV x.1 x.2.1)++[y]=(x.2.2.take (k+1).toNat).map (seeV x.1 x.2.1))∧((x.2.2.length:Int) - (k+1)).toNat<((x.2.2.length:Int) - k).toNat:=by
   intro y hy
   refine ⟨⟨⟨by omega,by omega⟩,?_⟩,by omega⟩
   rw [et,List.map_append,hy];rfl
  have hroom:∀ y:Look,Z.roomy 3 ((((x.2.2.take k.toNat).map (seeV x.1 x.2.1)++[y]).length:Nat):Int):=fun y=>roomy_of (by decide) (by decide) (by simp;omega)
  have in1:Z.in64 (k+1):=by simp only [Z.in64];omega
  have e16:(2:Int)^Int.toNat 4=16:=rfl
  have e12:(2:Int)^Int.toNat 12=4096:=rfl
  refine ⟨⟨k1,hlt⟩,by show (x.1.1.length:Int)≠0;omega,⟨by decide,by decide⟩,by show x.1.2.1≠0;omega,⟨by decide,by decide⟩,fun h0=>⟨hroom _,in1,hnext _ ?_⟩,fun h0=>⟨⟨ht,⟨hat.1.1,?_⟩,hat.2.1,?_⟩,fun hbd=>⟨hroom _,in1,hnext _ ?_⟩,fun hbd=>⟨hroom _,in1,hnext _ ?_⟩⟩⟩
  ·have h0:(Int.fdiv (x.2.2.getD k.toNat 0) 4096==0)=true:=h0
   unfold seeV
   rw [h0];rfl
  ·show Int.tmod (x.2.2.getD k.toNat 0) (x.1.1.length:Int)<8
   omega
  ·show Int.tmod (Int.fdiv (x.2.2.getD k.toNat 0) 16) x.1.2.1<8
   omega
  ·have h0:(Int.fdiv (x.2.2.getD k.toNat 0) 4096==0)=false:=h0
   have hbd:badB x.2.1 (Int.tmod (x.2.2.getD k.toNat 0) (x.1.1.length:Int)) (Int.tmod (Int.fdiv (x.2.2.getD k.toNat 0) 16) x.1.2.1)=true:=hbd
   unfold seeV
   rw [h0,hbd];rfl
  ·have h0:(Int.fdiv (x.2.2.getD k.toNat 0) 4096==0)=false:=h0
   have hbd:badB x.2.1 (Int.tmod (x.2.2.getD k.toNat 0) (x.1.1.length:Int)) (Int.tmod (Int.fdiv (x.2.2.getD k.toNat 0) 16) x.1.2.1)=false:=hbd
   unfold seeV
   rw [h0,hbd];rfl
 ·have hlt:¬ k<(x.2.2.length:Int):=of_decide_eq_false hlt
  rw [List.take_of_length_le (by omega)]
  rfl
end Go.Xr
