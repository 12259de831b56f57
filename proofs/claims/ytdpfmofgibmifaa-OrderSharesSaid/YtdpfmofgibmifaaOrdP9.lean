/-
  Chapter 10: conditions of the reference's functions, proved.
-/
import Derived.Test.YtdpfmofgibmifaaOrdP8
import Derived.Test.YtdpfmofgibmifaaOrdAuto2
set_option linter.all false
set_option maxRecDepth 100000
set_option maxHeartbeats 4000000
set_option linter.unusedVariables false
namespace Go.Ord
open Go Go.Sx
theorem zcJ:TabsOk Go.Proofs.Try.prog T2:=by
 refine ⟨by kernel_rfl,fun p hp=>?_⟩
 simp only [T2,List.mem_cons,List.not_mem_nil,or_false] at hp
 rcases hp with rfl <;>
  exact ⟨by kernel_rfl,Maps.int_keyed (q:=.i64) (by kernel_rfl),by kernel_rfl⟩
theorem pow_bd {n:Int} (h0:0<=n) (h:n<=62):(1:Int)<=2^n.toNat∧(2:Int)^n.toNat<=4611686018427387904:=by
 have h1:(2:Nat)^n.toNat<=2^62:=Nat.pow_le_pow_right (by decide) (by omega)
 have h2:0<(2:Nat)^n.toNat:=Nat.pow_pos (by decide)
 rw [pow_int]
 generalize 2^n.toNat=m at *
 omega
theorem v39 (x:Int) (hp:k39.pre x):V39 x:=by
 obtain ⟨h0,h1⟩:0<=x∧x<=62:=hp
 refine ⟨fun s=>0<=s.2∧s.2<=x∧s.1=2^s.2.toNat,fun s=>(x - s.2).toNat,⟨by simp,by simpa using h0,rfl⟩,?_⟩
 rintro ⟨a,i⟩ ⟨i1,i2,e0⟩
 simp only at i1 i2 e0 ⊢
 subst e0
 refine ⟨fun hi=>?_,fun hi=>?_⟩
 ·have hi:=of_decide_eq_true hi
  have e:(i+1).toNat=i.toNat+1:=by omega
  have hb:=pow_bd (n:=i+1) (by omega) (by omega)
  rw [e,Int.pow_succ] at hb
  refine ⟨by simp only [Z.in64];omega,by simp only [Z.in64];omega,⟨by show 0<=i+1;omega,by show i+1<=x;omega,?_⟩,?_⟩
  ·show 2*(2:Int)^i.toNat=2^(i+1).toNat
   rw [e,Int.pow_succ,Int.mul_comm]
  ·show (x - (i+1)).toNat<(x - i).toNat
   omega
 ·have hi:=of_decide_eq_false hi
  have:i=x:=by omega
  rw [this];rfl
theorem has_ref {s n:Int} (hs:0<=s) (hn:0<=n):((Int.tmod (Int.tdiv s (2^n.toNat)) 2)==1)=hasB s n:=by
 obtain ⟨m,rfl⟩:=Int.eq_ofNat_of_zero_le hs
 obtain ⟨k,rfl⟩:=Int.eq_ofNat_of_zero_le hn
 have e:Int.tdiv (m:Int) (2^(Int.toNat (k:Int)))=((m / 2^k:Nat):Int):=by
  rw [Int.tdiv_eq_ediv_of_nonneg (by omega)]
  simp
 rw [e,Int.tmod_eq_emod_of_nonneg (Int.natCast_nonneg _)]
 simp only [hasB,Int.toNat_natCast,Nat.testBit_eq_decide_div_mod_eq]
 rw [Bool.eq_iff_iff]
 simp only [beq_iff_eq,decide_eq_true_eq]
 omega
theorem v48 (x:Int × Int) (hp:k48.pre x):V48 x:=by
 obtain ⟨⟨h0,h1⟩,h2,h3⟩:(0<=x.1∧x.1<=topN)∧0<=x.2∧x.2<=62:=hp
 have hb:=pow_bd h2 h3
 have hd:0<=Int.tdiv x.1 (2^x.2.toNat)∧Int.tdiv x.1 (2^x.2.toNat)<=x.1:=by
  rw [Int.tdiv_eq_ediv_of_nonneg h0]
  exact ⟨Int.ediv_nonneg h0 (by omega),Int.ediv_le_self _ h0⟩
 refine ⟨⟨h2,h3⟩,⟨?_,?_⟩,by decide,?_⟩
 ·show (2:Int)^x.2.toNat≠0
  omega
 ·show Z.in64 (Int.tdiv x.1 (2^x.2.toNat))
  simp only [topN] at h1
  simp only [Z.in64];omega
 ·exact has_ref h0 h2
theorem range_succ_countP (p:Nat->Bool) (n:Nat):(List.range (n+1)).countP p=(List.range n).countP p+cond (p n) 1 0:=by
 rw [List.range_succ,List.countP_append]
 cases h:p n<;>simp [h]
theorem v33 (x:Int) (hp:k33.pre x):V33 x:=by
 obtain ⟨h0,h1⟩:0<=x∧x<=topN:=hp
 refine ⟨fun s=>0<=s.2∧s.2<=8∧s.1=(((List.range s.2.toNat).countP fun k=>hasB x (k:Nat):Nat):Int),fun s=>(8 - s.2).toNat,⟨by simp,by simp,rfl⟩,?_⟩
 rintro ⟨a,i⟩ ⟨i1,i2,i3⟩
 simp only at i1 i2 i3 ⊢
 refine ⟨fun hi=>?_,fun hi=>?_⟩
 ·have hi:=of_decide_eq_true hi
  have e:(i+1).toNat=i.toNat+1:=by omega
  have hc:(List.range i.toNat).countP (fun k=>hasB x (k:Nat))<=i.toNat:=by
   have:=List.countP_le_length (p:=fun k=>hasB x ((k:Nat):Int)) (l:=List.range i.toNat)
   rwa [List.length_range] at this
  have er:=range_succ_countP (fun k=>hasB x (k:Nat)) i.toNat
  have ei:((i.toNat:Nat):Int)=i:=by omega
  rw [ei] at er
  refine ⟨⟨⟨h0,h1⟩,i1,by show i<=62;omega⟩,fun hb=>⟨by simp only [Z.in64];omega,by simp only [Z.in64];omega,⟨by show 0<=i+1;omega,by show i+1<=8;omega,?_⟩,?_⟩,fun hb=>⟨by simp only [Z.in64];omega,⟨by show 0<=i+1;omega,by show i+1<=8;omega,?_⟩,?_⟩⟩
  ·have hb:hasB x i=true:=hb
   show a+1=(((List.range (i+1).toNat).countP fun k=>hasB x (k:Nat):Nat):Int)
   rw [e,er,hb,i3];simp
  ·show (8 - (i+1)).toNat<(8 - i).toNat
   omega
  ·have hb:hasB x i=false:=hb
   show a=(((List.range (i+1).toNat).countP fun k=>hasB x (k:Nat):Nat):Int)
   rw [e,er,hb,i3];simp
  ·show (8 - (i+1)).toNat<(8 - i).toNat
   omega
 ·have hi:=of_decide_eq_false hi
  have:i=8:=by omega
  subst this
  exact i3
theorem supply_or (y:Supply):(((!inB y.1 0 (2^(8:Int).toNat - 1))||(!spanB y.2.1 0 1048576))||(!spanB y.2.2 0 1048576))=!supplyB y:=by
 have:(2^(8:Int).toNat - 1:Int)=255:=by decide
 rw [this]
 simp only [supplyB,topN,Bool.not_and,Bool.or_assoc]
theorem order_or (o:Order):((((!inB o.1 0 7)||(!inB o.2.1 0 1048576))||(!inB o.2.2.1 0 1048576))||(!inB o.2.2.2 0 1000000))=!orderB o:=by
 simp only [orderB,topN,Bool.not_and,Bool.or_assoc]
theorem v25 (x:Sale) (hp:k25.pre x):V25 x:=by
 obtain ⟨sup,ord⟩:=x
 obtain ⟨hs,ho⟩:sup.length<=16∧ord.length<=16:=hp
 refine ⟨fun s=>0<=s∧s<=(sup.length:Int)∧sup.all supplyB=(sup.drop s.toNat).all supplyB,fun s=>((sup.length:Int) - s).toNat,⟨by omega,by omega,rfl⟩,?_⟩
 rintro i ⟨i1,i2,hi⟩
 refine ⟨fun hlt=>?_,fun hlt=>?_⟩
 ·have hlt:i<(sup.length:Int):=of_decide_eq_true hlt
  have ed:=all_drop supplyB sup (0,(0,0),0,0) i i1 hlt
  have e:=supply_or (sup.getD i.toNat (0,(0,0),0,0))
  refine ⟨⟨i1,hlt⟩,⟨by decide,by decide⟩,(by show Z.in64 (2^(8:Int).toNat - 1);rw [show (2^(8:Int).toNat - 1:Int)=255 from by decide];simp only [Z.in64];omega),trivial,fun _=>trivial,fun _=>trivial,fun hb=>?_,fun hb=>⟨by simp only [Z.in64];omega,⟨by omega,by omega,?_⟩,by show ((sup.length:Int) - (i+1)).toNat<((sup.length:Int) - i).toNat;omega⟩⟩
  ·have hb:=e.symm.trans hb
   show false=saleB (sup,ord)
   have:supplyB (sup.getD i.toNat (0,(0,0),0,0))=false:=by simpa using hb
   rw [saleB,hi,ed,this]
   simp
  ·have hb:=e.symm.trans hb
   have:supplyB (sup.getD i.toNat (0,(0,0),0,0))=true:=by simpa using hb
   rw [hi,ed,this,Bool.true_and]
 ·have hlt:¬ i<(sup.length:Int):=of_decide_eq_false hlt
  have hall:sup.all supplyB=true:=by
   rw [hi,List.drop_of_length_le (by omega)];rfl
  refine ⟨fun s=>0<=s∧s<=(ord.length:Int)∧ord.all orderB=(ord.drop s.toNat).all orderB,fun s=>((ord.length:Int) - s).toNat,⟨by omega,by omega,rfl⟩,?_⟩
  rintro j ⟨j1,j2,hj⟩
  refine ⟨fun hlt=>?_,fun hlt=>?_⟩
  ·have hlt:j<(ord.length:Int):=of_decide_eq_true hlt
   have ed:=all_drop orderB ord (0,0,0,0) j j1 hlt
   have e:=order_or (ord.getD j.toNat (0,0,0,0))
   refine ⟨⟨j1,hlt⟩,trivial,fun _=>trivial,fun _=>trivial,fun _=>trivial,fun hb=>?_,fun hb=>⟨by simp only [Z.in64];omega,⟨by omega,by omega,?_⟩,by show ((ord.length:Int) - (j+1)).toNat<((ord.length:Int) - j).toNat;omega⟩⟩
   ·have hb:=e.symm.trans hb
    show false=saleB (sup,ord)
    have:orderB (ord.getD j.toNat (0,0,0,0))=false:=by simpa using hb
    rw [saleB,hj,ed,this]
    simp
   ·have hb:=e.symm.trans hb
    have:orderB (ord.getD j.toNat (0,0,0,0))=true:=by simpa using hb
    rw [hj,ed,this,Bool.true_and]
  ·have hlt:¬ j<(ord.length:Int):=of_decide_eq_false hlt
   have hall2:ord.all orderB=true:=by
    rw [hj,List.drop_of_length_le (by omega)];rfl
   show (_:Bool)=saleB (sup,ord)
   rw [saleB,hall,hall2]
   simp
theorem v28 (x:Sale) (hp:k28.pre x):V28 x:=by
 obtain ⟨sup,ord⟩:=x
 obtain ⟨hs,ho⟩:sup.length<=16∧ord.length<=16:=hp
 refine ⟨fun s=>0<=s.2∧s.2<=(ord.length:Int)∧s.1=(ord.take s.2.toNat).map (fun o=>o.2.1),fun s=>((ord.length:Int) - s.2).toNat,⟨by simp,by simp,rfl⟩,?_⟩
 rintro ⟨l,i⟩ ⟨i1,i2,e1⟩
 simp only at i1 i2 e1 ⊢
 subst e1
 have hlen:((ord.take i.toNat).map (fun o:Order=>o.2.1)).length<=16:=by rw [List.length_map,List.length_take];omega
 refine ⟨fun hi=>?_,fun hi=>?_⟩
 ·have hi:=of_decide_eq_true hi
  refine ⟨⟨i1,hi⟩,rm1 (by rw [List.length_append];simp;omega),by simp only [Z.in64];omega,⟨by show 0<=i+1;omega,by show i+1<=_;omega,(zcq (fun o:Order=>o.2.1) ord (0,0,0,0) i i1 hi).symm⟩,?_⟩
  show ((ord.length:Int) - (i+1)).toNat<((ord.length:Int) - i).toNat
  omega
 ·have hi:=of_decide_eq_false hi
  rw [List.take_of_length_le (by omega)];rfl
theorem v27 (x:Sale × (List Int) × List Int) (hp:k27.pre x):V27 x:=by
 obtain ⟨⟨sup,ord⟩,many,ready⟩:=x
 obtain ⟨h,hr⟩:saleB (sup,ord)=true∧ready.length=sup.length:=hp
 have S:=zbN.1 h
 have hs8:(sup.length:Int)<=8:=by have:=S.s8;simp only at this;omega
 have ho8:(ord.length:Int)<=8:=by have:=S.o8;simp only at this;omega
 let row:Nat->List Bool:=fun i=>ord.map (canB (sup.getD i noSupply).1 (ready.getD i 0))
 refine ⟨fun s=>0<=s.1∧s.1<=(sup.length:Int)∧s.2.1=(many,[])∧s.2.2=(List.range s.1.toNat).map row,fun s=>((sup.length:Int) - s.1).toNat,⟨by simp,by simp,rfl,rfl⟩,?_⟩
 rintro ⟨i,c,l⟩ ⟨i1,i2,e1,e2⟩
 simp only at i1 i2 e1 e2 ⊢
 subst e1;subst e2
 have hlen:((List.range i.toNat).map row).length<=8:=by rw [List.length_map,List.length_range];omega
 refine ⟨fun hi=>?_,fun hi=>?_⟩
 ·have hi:=of_decide_eq_true hi
  obtain ⟨y,hy⟩:∃ y,y=sup.getD i.toNat (0,(0,0),0,0):=⟨_,rfl⟩
  have hym:y∈sup:=by rw [hy];exact zbK sup _ i i1 hi
  have hyo:=zdF.1 (S.sup y hym)
  rw [<-hy]
  refine ⟨fun s=>0<=s.2∧s.2<=(ord.length:Int)∧s.1=(ord.take s.2.toNat).map (canB y.1 (ready.getD i.toNat 0)),fun s=>((ord.length:Int) - s.2).toNat,⟨by simp,by simp,rfl⟩,?_⟩
  rintro ⟨l,k⟩ ⟨k1,k2,e1⟩
  simp only at k1 k2 e1 ⊢
  subst e1
  have klen:((ord.take k.toNat).map (canB y.1 (ready.getD i.toNat 0))).length<=8:=by rw [List.length_map,List.length_take];omega
  refine ⟨fun hk=>?_,fun hk=>?_⟩
  ·have hk:=of_decide_eq_true hk
   obtain ⟨o,ho⟩:∃ o,o=ord.getD k.toNat (0,0,0,0):=⟨_,rfl⟩
   have hom:o∈ord:=by rw [ho];exact zbK ord _ k k1 hk
   have hoo:=zdK.1 (S.ord o hom)
   have et:=zcq (canB y.1 (ready.getD i.toNat 0)) ord (0,0,0,0) k k1 hk
   rw [<-ho] at et ⊢
   refine ⟨⟨k1,hk⟩,⟨i1,hi⟩,⟨⟨hyo.1.1,by have:=hyo.1.2;simp only [topN];omega⟩,hoo.1.1,by have:=hoo.1.2;show o.1<=62;omega⟩,fun _=>⟨i1,by rw [hr];exact hi⟩,rm1 (by rw [List.length_append];simp;omega),by simp only [Z.in64];omega,?_,?_,?_,⟨by show 0<=k+1;omega,by show k+1<=_;omega,et.symm⟩,?_⟩
   all_goals first | trivial | rfl | skip
   show ((ord.length:Int) - (k+1)).toNat<((ord.length:Int) - k).toNat
   omega
  ·have hk:=of_decide_eq_false hk
   have kfull:ord.take k.toNat=ord:=List.take_of_length_le (by omega)
   rw [kfull]
   have e:(i+1).toNat=i.toNat+1:=by omega
   refine ⟨rm1 (by rw [List.length_append];simp;omega),by simp only [Z.in64];omega,?_,⟨by show 0<=i+1;omega,by show i+1<=_;omega,?_,?_⟩,?_⟩
   all_goals first | trivial | rfl | skip
   ·show _++[ord.map (canB y.1 (ready.getD i.toNat 0))]=(List.range (i+1).toNat).map row
    rw [e,List.range_succ,List.map_append,hy]
    rfl
   ·show ((sup.length:Int) - (i+1)).toNat<((sup.length:Int) - i).toNat
    omega
 ·have hi:=of_decide_eq_false hi
  have:i.toNat=sup.length:=by omega
  rw [this];rfl
end Go.Ord
