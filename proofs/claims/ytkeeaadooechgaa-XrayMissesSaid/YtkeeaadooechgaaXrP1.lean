/-
  Chapter 6: conditions of small functions, proved.
-/
import Derived.Test.YtkeeaadooechgaaXrAuto
set_option linter.all false
set_option maxRecDepth 100000
set_option maxHeartbeats 4000000
set_option linter.unusedVariables false
namespace Go.Xr
open Go Go.Sx
theorem mixed:Go.Proofs.Try.prog.follows .mixedOrders=true:=by kernel_rfl
theorem tabs_ok:TabsOk Go.Proofs.Try.prog T:=by
 refine ⟨by kernel_rfl,fun p hp=>?_⟩
 simp only [T,List.not_mem_nil] at hp
structure CrateOk (c:Crate):Prop where
 r1:1≤c.1.length
 r8:c.1.length≤8
 c1:1≤c.2.1
 c8:c.2.1≤8
 lie:∀ n∈c.1,1≤n∧n≤1000
 clamps:0≤c.2.2.1∧c.2.2.1≤3
 dies:0≤c.2.2.2∧c.2.2.2≤3
theorem crate_iff {c:Crate}:crateB c=true↔CrateOk c:=by
 simp only [crateB,Bool.and_eq_true,inB_iff,List.all_eq_true]
 constructor
 ·rintro ⟨⟨⟨⟨h1,h2⟩,h3,h4⟩,h5⟩,h6,h7⟩
  exact ⟨by omega,by omega,h3,h4,h5,h6,h7⟩
 ·rintro ⟨h1,h2,h3,h4,h5,h6,h7⟩
  exact ⟨⟨⟨⟨by omega,by omega⟩,h3,h4⟩,h5⟩,h6,h7⟩
theorem has_div {s n:Int} (hs:0≤s) (hn:0≤n):((((Int.toNat (Int.fdiv s (2^(Int.toNat n)))) &&& (Int.toNat (1)):Nat):Int)==1)=hasB s n:=by
 obtain ⟨m,rfl⟩:=Int.eq_ofNat_of_zero_le hs
 obtain ⟨k,rfl⟩:=Int.eq_ofNat_of_zero_le hn
 have e:Int.fdiv (m:Int) (2^(Int.toNat (k:Int)))=((m / 2^k:Nat):Int):=by
  rw [Int.fdiv_eq_ediv_of_nonneg _ (Int.le_of_lt (Int.pow_pos (by decide)))]
  simp
 rw [e]
 simp only [hasB,Int.toNat_natCast,Nat.testBit_eq_decide_div_mod_eq]
 have:Int.toNat 1=1:=rfl
 rw [this,Nat.and_one_is_mod]
 rw [Bool.eq_iff_iff]
 simp only [beq_iff_eq,decide_eq_true_eq]
 omega
theorem pow_int (k:Int):(2^k.toNat:Int)=((2^k.toNat:Nat):Int):=by simp
theorem shl_ok {k:Int} (h0:0≤k) (h8:k<62):((0:Int)≤k∧k<64)∧Z.in64 (1*2^k.toNat):=by
 refine ⟨⟨h0,by omega⟩,?_⟩
 have:(2:Nat)^k.toNat≤2^62:=Nat.pow_le_pow_right (by decide) (by omega)
 simp only [Z.in64]
 rw [Int.one_mul,pow_int]
 generalize 2^k.toNat=m at *
 omega
theorem small_nat {x:Int} (h:smallSet x):∃ n:Nat,n<256∧x=(n:Int):=⟨x.toNat,by simp only [smallSet] at h;omega,by simp only [smallSet] at h;omega⟩
theorem wrap_u {x:Int} (h:smallSet x):Go.IntKind.wrap .u64 x=x:=by
 obtain ⟨n,h1,rfl⟩:=small_nat h
 have key:∀ n,n<256→Go.IntKind.wrap .u64 ((n:Nat):Int)=(n:Int):=of_decide_eq_true (by kernel_rfl)
 exact key n h1
theorem size_bd (x:Int):0≤sizeV x∧sizeV x≤8:=by
 unfold sizeV
 have:=List.countP_le_length (p:=fun k=>hasB x (k:Nat)) (l:=List.range 8)
 rw [List.length_range] at this
 omega
theorem v42 (x:Int × Int × Int) (_:k42.pre x):V42 x:=rfl
theorem v40 (x:Crate × Int × Int) (h:k40.pre x):V40 x:=by
 have h:x.1.1.length≤big:=h
 simp only [big] at h
 exact ⟨by simp only [Z.in64];omega,trivial,fun _=>trivial,rfl⟩
theorem v57 (x:Int) (_:k57.pre x):V57 x:=⟨trivial,rfl⟩
theorem v71 (x:(List Int) × Fun Int Bool) (h:k71.pre x):V71 x:=ixF_loop x.1 0 x.2 h.1 h.2
theorem v58 (x:(List Int) × Fun Int Bool) (h:k58.pre x):V58 x:=⟨h,any_ix _ _⟩
theorem v41 (x:Crate) (h:k41.pre x):V41 x:=by
 refine ⟨trivial,fun _=>trivial,fun _=>⟨h,fun _ _=>trivial⟩,fun _=>trivial,fun _=>trivial,?_⟩
 show ((((inB (x.1.length:Int) 1 8&&inB x.2.1 1 8)&&!(x.1.any fun n=>!inB n 1 1000))&&inB x.2.2.1 0 3)&&inB x.2.2.2 0 3)=crateB x
 rw [any_not,crateB,Bool.and_assoc]
theorem less1u_eq {a:Int} (h:1≤a∧a≤8):less1 a=a - 1:=by
 have key:∀ n:Nat,n<8→less1 ((n:Nat)+1:Int)=(n:Int):=of_decide_eq_true (by kernel_rfl)
 have:=key (a - 1).toNat (by omega)
 rw [show (((a - 1).toNat:Nat):Int)=a - 1 by omega] at this
 rwa [show a - 1+1=a by omega] at this
theorem place_eq {c:Crate} (h:CrateOk c) (r k:Int):placeE c r k=placeB c r k:=by
 simp only [placeE,placeB,less1u_eq ⟨h.c1,h.c8⟩]
theorem v51 (x:Look × Crate) (h:k51.pre x):V51 x:=by
 have hc:=crate_iff.1 (show crateB x.2=true from h)
 have h8:=hc.r8
 refine ⟨by show x.2.1.length≤big;simp only [big];omega,fun _=>trivial,?_⟩
 show ((!placeE x.2 x.1.1 x.1.2.1)||(!inB x.1.2.2 0 2))=(!lookB x.2 x.1)
 rw [place_eq hc,lookB,Bool.not_and]
theorem v65 (x:(List Look) × Fun Look Bool) (h:k65.pre x):V65 x:=ixF_loop x.1 (0,0,0) x.2 h.1 h.2
theorem v52 (x:(List Look) × Fun Look Bool) (h:k52.pre x):V52 x:=⟨h,any_ix _ _⟩
theorem v62 (x:Int × Int) (h:k62.pre x):V62 x:=by
 obtain ⟨h1,h2,h3⟩:=h
 refine ⟨⟨h2,h3⟩,⟨?_,by decide⟩,has_div h1 h2⟩
 rw [Int.fdiv_eq_ediv_of_nonneg _ (Int.le_of_lt (Int.pow_pos (by decide)))]
 exact Int.ediv_nonneg h1 (Int.le_of_lt (Int.pow_pos (by decide)))
instance (x:Int):Decidable (V83 x):=by unfold V83;exact inferInstance
theorem all83:∀ n,n<256→V83 ((n:Nat):Int):=of_decide_eq_true (by kernel_rfl)
theorem v83 (x:Int) (h:k83.pre x):V83 x:=by
 obtain ⟨n,h1,rfl⟩:=small_nat h
 exact all83 n h1
theorem v82 (x:Int) (h:k82.pre x):V82 x:=h.elim
theorem v76 (x:Int) (h:k76.pre x):V76 x:=⟨fun h=>(by cases h),fun _=>⟨h,rfl⟩⟩
theorem v64 (x:Int) (h:k64.pre x):V64 x:=by
 unfold V64
 rw [wrap_u h]
 exact ⟨h,rfl⟩
theorem v67 (x:Int × Int) (_:k67.pre x):V67 x:=rfl
theorem v70 (x:Truth × Int × Int) (h:k70.pre x):V70 x:=by
 obtain ⟨⟨h1,h2⟩,h3,h4⟩:=h
 exact ⟨⟨h1.1,h3.1,by omega⟩,fun _=>⟨h2.1,h4.1,by omega⟩,rfl⟩
theorem v116 (x:Look × Truth) (h:k116.pre x):V116 x:=⟨⟨h.2,h.1.1,h.1.2⟩,rfl⟩
theorem v117 (x:Look × Truth) (h:k117.pre x):V117 x:=⟨⟨h.2,h.1.1,h.1.2⟩,rfl⟩
theorem v118 (x:Look × Truth) (_:k118.pre x):V118 x:=rfl
theorem v53 (x:Look) (h:k53.pre x):V53 x:=by
 have h:0≤x.2.2∧x.2.2≤2:=h
 refine ⟨⟨h.1,by omega⟩,?_⟩
 show _=lookI x
 rcases (show x.2.2=0∨x.2.2=1∨x.2.2=2 by omega) with e | e | e<;>rw [lookI,e]<;>rfl
theorem v54 (x:Crate × List LookI) (_:k54.pre x):V54 x:=rfl
theorem v73 (x:Int) (_:k73.pre x):V73 x:=by
 show (!x==x)=false
 simp
theorem cmp_lt (a b:Int):decide (cmpV a b<0)=decide (a<b):=by
 unfold cmpV
 by_cases h:a<b
 ·simp [h]
 ·by_cases h2:b<a<;>simp [h,h2]
theorem v61 (x:Int × Int) (_:k61.pre x):V61 x:=by
 refine ⟨trivial,trivial,fun h=>(by cases h),fun _=>⟨fun h=>(by cases h),fun _=>⟨fun h=>?_,fun h=>⟨fun h'=>?_,fun h'=>?_⟩⟩⟩⟩
 ·show -1=cmpV x.1 x.2
  rw [cmpV,h];rfl
 ·show 1=cmpV x.1 x.2
  rw [cmpV,h,h'];rfl
 ·show 0=cmpV x.1 x.2
  rw [cmpV,h,h'];rfl
theorem v75 (x:Int × Int) (_:k75.pre x):V75 x:=⟨trivial,rfl⟩
theorem v60 (x:Int × Int × Plan) (h:k60.pre x):V60 x:=⟨h.2,h.1,trivial,rfl⟩
theorem v92 (x:Int) (h:k92.pre x):V92 x:=h.elim
theorem all93:∀ n,n<9→((0:Int)≤Go.IntKind.wrap .u8 ((n:Nat):Int)∧Go.IntKind.wrap .u8 ((n:Nat):Int)<256)∧(0≤0+lenTab.getD (Go.IntKind.wrap .u8 ((n:Nat):Int)).toNat 0∧0+lenTab.getD (Go.IntKind.wrap .u8 ((n:Nat):Int)).toNat 0≤8)∧0+lenTab.getD (Go.IntKind.wrap .u8 ((n:Nat):Int)).toNat 0=lenV ((n:Nat):Int):=of_decide_eq_true (by kernel_rfl)
theorem v93 (x:Int) (h:k93.pre x):V93 x:=by
 have h:0≤x∧x≤8:=h
 have key:=all93 x.toNat (by omega)
 rw [show ((x.toNat:Nat):Int)=x by omega] at key
 have no:∀ {c:Int} {P:Prop},8<c→decide (c≤x)=true→P:=fun hc hd=>absurd (of_decide_eq_true hd) (by omega)
 refine ⟨no (by decide),fun _=>⟨no (by decide),fun _=>⟨no (by decide),fun _=>⟨key.1,?_,key.2.2⟩⟩⟩⟩
 have:=key.2.1
 simp only [Z.in64]
 omega
theorem v81 (x:Int) (h:k81.pre x):V81 x:=⟨fun h=>(by cases h),fun _=>⟨h,rfl⟩⟩
theorem v27 (x:Int × Int) (_:k27.pre x):V27 x:=rfl
theorem v25 (x:Unit) (_:k25.pre x):V25 x:=rfl
theorem v26 (x:Unit) (_:k26.pre x):V26 x:=by
 unfold V26
 first | exact ⟨trivial,rfl⟩ | exact rfl | (refine ⟨?_,rfl⟩;trivial)
end Go.Xr
