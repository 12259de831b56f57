/-
  Chapter 3: what Plan returns, and what it returns if less is asked for.
-/
import Derived.Test.YtfjkenhmaebpmaaFireP17
import Derived.Test.YtfjkenhmaebpmaaFireAuto5
set_option linter.all false
set_option maxRecDepth 100000
set_option linter.unusedVariables false
namespace Go.Fire
open Go Go.Sx
theorem tabs_ok5:TabsOk Go.Proofs.Try.prog T5:=by
 refine ⟨by kernel_rfl,fun p hp=>?_⟩
 simp only [T5,List.mem_cons,List.not_mem_nil,or_false] at hp
 rcases hp with rfl | rfl <;>
  exact ⟨by kernel_rfl,deep_keyed (by kernel_rfl) (of_decide_eq_true (by kernel_rfl)) (by kernel_rfl) (by kernel_rfl),by kernel_rfl⟩
theorem places_in {k:Kiln}:∀ {l:List Int} {prev:Int},placesB k l prev=true→∀ n∈l,0≤n∧n<(k.1.length:Int)
 | [],_,_,n,hn=>by cases hn
 | m::l,prev,h,n,hn=>by
  rw [placesB,Bool.and_eq_true,Bool.and_eq_true] at h
  rcases List.mem_cons.1 hn with rfl | hn
  ·have:=inB_iff.1 h.1.1;omega
  ·exact places_in h.2 n hn
theorem plan_cases (k:Kiln) (f:Fire) (places:List Int):fire_Plan (k,f,places)=([],1)∨fire_Plan (k,f,places)=([],2) ∨
  (kilnB k=true∧fireB f=true∧placesB k places (-1)=true∧places≠[]∧Least k f (standsOf k f places) (fire_Plan (k,f,places))):=by
 have e:fire_Plan (k,f,places)=planV k f places:=rfl
 rw [e,planV]
 cases h1:(!kilnB k||!fireB f) with
 | true=>exact .inl rfl
 | false =>
  simp only [Bool.or_eq_false_iff,Bool.not_eq_false'] at h1
  cases h2:(!placesB k places (-1)||(places.length:Int)==0) with
  | true=>exact .inr (.inl rfl)
  | false =>
   simp only [Bool.or_eq_false_iff,Bool.not_eq_false',beq_eq_false_iff_ne] at h2
   have K:=kiln_iff.1 h1.1
   have F:=fire_iff.1 h1.2
   exact .inr (.inr ⟨h1.1,h1.2,h2.1,fun e=>by rw [e] at h2;simp at h2,plan_least K.step.1 F.2.1⟩)
structure Looser (k:Kiln) (f:Fire) (S:List Stand) (k':Kiln) (f':Fire) (S':List Stand):Prop where
 step:k'.2.2.2=k.2.2.2
 ramp:k.2.2.1≤k'.2.2.1
 cool:f'.1=f.1
 soak:f'.2.1=f.2.1
 hold:f'.2.2.2.1=f.2.2.2.1
 top:f.2.2.1≤f'.2.2.1
 rise:f.2.2.2.2.1≤f'.2.2.2.2.1
 fall:f.2.2.2.2.2≤f'.2.2.2.2.2
 at_:∀ s'∈S',s'.2.1=f'∧∃ s∈S,s.2.1=f∧s.2.2=s'.2.2∧(0≤s'.1.2.1∧s'.1.2.1≤s.1.2.1)∧placeB s.2.2=true
variable {k k':Kiln} {f f':Fire} {S S':List Stand}
theorem Looser.cold (L:Looser k f S k' f' S') {x h h':Int} (hh:h≤h') (hc:allCold S x h=true):allCold S' x h'=true:=by
 refine List.all_eq_true.2 fun s' hs'=>?_
 obtain ⟨_,s,hs,_,e,he,hp⟩:=L.at_ s' hs'
 have P:=place_iff.1 hp
 have h1:s.2.2.1.2*(x+s.1.2.1)+1000*s.2.2.2.2≤1000*h:=of_decide_eq_true (List.all_eq_true.1 hc s hs)
 have h2:s.2.2.1.2*(x+s'.1.2.1)≤s.2.2.1.2*(x+s.1.2.1):=Int.mul_le_mul_of_nonneg_left (by omega) (by omega)
 refine decide_eq_true ?_
 show s'.2.2.1.2*(x+s'.1.2.1)+1000*s'.2.2.2.2≤1000*h'
 rw [←e];omega
theorem Looser.goes (L:Looser k f S k' f' S') {a b:Int} (hc:S.all (goesV f a b)=true):S'.all (goesV f' a b)=true:=by
 refine List.all_eq_true.2 fun s' hs'=>?_
 obtain ⟨e',s,hs,e0,e,he,hp⟩:=L.at_ s' hs'
 have P:=place_iff.1 hp
 have h0:=List.all_eq_true.1 hc s hs
 rw [goesV,Bool.and_eq_true] at h0
 have h1:s.2.2.1.2*(b+s.1.2.1 - max 0 (a - s.1.2.1))≤1000*f.2.2.2.2.1:=of_decide_eq_true h0.1
 have h2:s.2.2.1.2*(a+s.1.2.1 - max 0 (b - s.1.2.1))≤1000*f.2.2.2.2.2:=of_decide_eq_true h0.2
 have h3:s.2.2.1.2*(b+s'.1.2.1 - max 0 (a - s'.1.2.1))≤s.2.2.1.2*(b+s.1.2.1 - max 0 (a - s.1.2.1)):=Int.mul_le_mul_of_nonneg_left (by omega) (by omega)
 have h4:s.2.2.1.2*(a+s'.1.2.1 - max 0 (b - s'.1.2.1))≤s.2.2.1.2*(a+s.1.2.1 - max 0 (b - s.1.2.1)):=Int.mul_le_mul_of_nonneg_left (by omega) (by omega)
 have r:=L.rise
 have fl:=L.fall
 rw [goesV,Bool.and_eq_true]
 refine ⟨decide_eq_true ?_,decide_eq_true ?_⟩
 ·show s'.2.2.1.2*(b+s'.1.2.1 - max 0 (a - s'.1.2.1))≤1000*f'.2.2.2.2.1
  rw [←e];omega
 ·show s'.2.2.1.2*(a+s'.1.2.1 - max 0 (b - s'.1.2.1))≤1000*f'.2.2.2.2.2
  rw [←e];omega
end Go.Fire
