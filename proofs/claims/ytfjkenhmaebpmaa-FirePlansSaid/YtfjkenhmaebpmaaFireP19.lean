/-
  Chapter 3: FirePlan and FireLess: their conditions proved.
-/
import Derived.Test.YtfjkenhmaebpmaaFireP18
set_option linter.all false
set_option maxRecDepth 100000
set_option maxHeartbeats 1000000
set_option linter.unusedVariables false
namespace Go.Fire
open Go Go.Sx
theorem v36 (x:Kiln × List Int) (hp:k36.pre x):V36 x:=by
 obtain ⟨k,l⟩:=x
 obtain ⟨hb1,hb2⟩:k.1.length≤big∧l.length≤big:=hp
 simp only [big] at hb1 hb2
 have eP:ref03u_Places (k,l)=(placesB k l (-1)&&decide (0<(l.length:Int))):=rfl
 rw [V36,eP]
 dsimp only
 refine ⟨fun s=>∃ i:Nat,s=(i:Int)∧i≤l.length∧placesB k l (-1)=placesB k (l.drop i) (prevAt l i),fun s=>((l.length:Int) - s).toNat,⟨0,rfl,Nat.zero_le _,rfl⟩,?_⟩
 rintro _ ⟨i,rfl,g1,g3⟩
 refine ⟨fun hd=>?_,fun hd=>?_⟩
 ·have hd:(i:Int)<(l.length:Int):=of_decide_eq_true hd
  obtain ⟨n,hnn⟩:∃ n,n=l.getD i 0:=⟨_,rfl⟩
  have hdr:=drop_getD l 0 i (by omega)
  rw [←hnn] at hdr
  rw [hdr,placesB] at g3
  have ei:Int.toNat (i:Int)=i:=rfl
  have hc:((!inB n 0 ((k.1.length:Int) - 1))||(decide ((0:Int)<(i:Int))&&decide (n≤l.getD ((i:Int) - 1).toNat 0)))=!(inB n 0 ((k.1.length:Int) - 1)&&decide (prevAt l i<n)):=by
   cases hin:inB n 0 ((k.1.length:Int) - 1) with
   | false=>rfl
   | true =>
    have:=inB_iff.1 hin
    cases i with
    | zero =>
     have h1:prevAt l 0<n:=by show (-1:Int)<n;omega
     have h2:decide ((0:Int)<((0:Nat):Int))=false:=rfl
     rw [decide_eq_true h1,h2];rfl
    | succ j =>
     have hp:l.getD j 0=prevAt l (j+1):=rfl
     rw [show (((j+1:Nat):Int) - 1).toNat=j by omega,decide_eq_true (show (0:Int)<((j+1:Nat):Int) by omega),hp]
     by_cases hlt:prevAt l (j+1)<n
     ·rw [decide_eq_true hlt,decide_eq_false (show ¬ n≤prevAt l (j+1) by omega)];rfl
     ·rw [decide_eq_false hlt,decide_eq_true (show n≤prevAt l (j+1) by omega)];rfl
  have er:ref03u_in (n,0,(k.1.length:Int) - 1)=inB n 0 ((k.1.length:Int) - 1):=rfl
  rw [ei,←hnn,er,hc]
  refine ⟨⟨by omega,hd⟩,by simp only [Z.in64];omega,trivial,fun _=>⟨by omega,hd⟩,fun _=>by simp only [Z.in64];omega,fun hg=>?_,fun hv=>?_,fun hv=>⟨by simp only [Z.in64];omega,⟨i+1,by omega,by omega,?_⟩,by dsimp only;omega⟩⟩
  ·have:(0:Int)<(i:Int):=of_decide_eq_true hg.1
   exact ⟨by omega,by omega⟩
  ·rw [not_iff.1.1 hv,Bool.false_and] at g3
   rw [g3];rfl
  ·rw [not_iff.2.1 hv,Bool.true_and] at g3
   rw [g3,hnn];rfl
 ·have hd:¬ (i:Int)<(l.length:Int):=of_decide_eq_false hd
  rw [List.drop_eq_nil_of_le (by omega),placesB] at g3
  rw [g3,Bool.true_and]
end Go.Fire
