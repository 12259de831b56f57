/-
  Chapter 6: conditions of the reference's functions.
-/
import Derived.Test.YtkeeaadooechgaaXrP11
import Derived.Test.YtkeeaadooechgaaXrAuto2
set_option linter.all false
set_option maxRecDepth 100000
set_option maxHeartbeats 4000000
set_option linter.unusedVariables false
namespace Go.Xr
open Go Go.Sx
theorem tabs_ok2:TabsOk Go.Proofs.Try.prog T2:=by
 refine ⟨by kernel_rfl,fun p hp=>?_⟩
 simp only [T2,List.not_mem_nil] at hp
theorem v46 (x:Int × Int × Int) (_:k46.pre x):V46 x:=rfl
theorem v28 (x:Crate) (h:k28.pre x):V28 x:=by
 have h:x.1.length≤big:=h
 simp only [big] at h
 refine ⟨fun s=>(0≤s∧s≤(x.1.length:Int))∧(x.1.drop s.toNat).all (fun n=>inB n 1 1000)=x.1.all fun n=>inB n 1 1000,fun s=>((x.1.length:Int) - s).toNat,⟨⟨Int.le_refl _,by omega⟩,rfl⟩,?_⟩
 rintro s ⟨⟨s1,s2⟩,hs⟩
 refine ⟨fun hk=>?_,fun hk=>?_⟩
 ·have hk:s<(x.1.length:Int):=of_decide_eq_true hk
  rw [all_drop _ x.1 0 s s1 hk] at hs
  refine ⟨⟨s1,hk⟩,trivial,fun hb=>?_,fun hb=>⟨by simp only [Z.in64];omega,⟨⟨by omega,by omega⟩,?_⟩,by show ((x.1.length:Int) - (s+1)).toNat<((x.1.length:Int) - s).toNat;omega⟩⟩
  ·have hb:inB (x.1.getD s.toNat 0) 1 1000=false:=by simpa using (show (!inB (x.1.getD s.toNat 0) 1 1000)=true from hb)
   rw [hb,Bool.false_and] at hs
   show false=crateB x
   rw [crateB,←hs,Bool.and_false,Bool.false_and]
  ·have hb:inB (x.1.getD s.toNat 0) 1 1000=true:=by simpa using (show (!inB (x.1.getD s.toNat 0) 1 1000)=false from hb)
   rw [hb,Bool.true_and] at hs
   exact hs
 ·have hk:¬ s<(x.1.length:Int):=of_decide_eq_false hk
  rw [List.drop_eq_nil_of_le (by omega)] at hs
  refine ⟨trivial,fun _=>trivial,fun _=>trivial,fun _=>trivial,?_⟩
  show (((inB (x.1.length:Int) 1 8&&inB x.2.1 1 8)&&inB x.2.2.1 0 3)&&inB x.2.2.2 0 3)=crateB x
  rw [crateB,←hs,List.all_nil,Bool.and_true,Bool.and_assoc]
theorem size_cols {s:Int} {n:Nat} (hn:n≤8) (h0:0≤s) (h:s<2^n):sizeV s=(((idx n).countP fun k=>hasB s k:Nat):Int):=by
 unfold sizeV
 have e:List.range 8=List.range n++(List.range (8 - n)).map fun k=>n+k:=by
  rw [show (8:Nat)=n+(8 - n) by omega,List.range_add,Nat.add_sub_cancel_left]
 have e2:((List.range (8 - n)).map fun k=>n+k).countP (fun k=>hasB s (k:Nat))=0:=by
  rw [List.countP_eq_zero]
  intro k hk
  obtain ⟨j,_,rfl⟩:=List.mem_map.1 hk
  simp only [hasB,Int.toNat_natCast]
  rw [Nat.testBit_lt_two_pow]
  ·simp
  ·have:s.toNat<2^n:=by
    have:((s.toNat:Nat):Int)<((2^n:Nat):Int):=by
     rw [Int.toNat_of_nonneg h0]
     simpa using h
    exact_mod_cast this
   exact Nat.lt_of_lt_of_le this (Nat.pow_le_pow_right (by decide) (by omega))
 have e3:(idx n).countP (fun k=>hasB s k)=(List.range n).countP fun k=>hasB s (k:Nat):=by
  unfold idx
  rw [List.countP_map]
  rfl
 rw [e,List.countP_append,e2,e3,Nat.add_zero]
end Go.Xr
