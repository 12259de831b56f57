/-
  Chapter 3: the reference's small functions, their conditions proved.
-/
import Derived.Test.YtfjkenhmaebpmaaFireAuto2
set_option linter.all false
set_option maxRecDepth 100000
set_option linter.unusedVariables false
namespace Go.Fire
open Go Go.Sx
theorem tabs_ok2:TabsOk Go.Proofs.Try.prog T2:=by
 refine ⟨by kernel_rfl,fun p hp=>?_⟩
 simp only [T2,List.mem_cons,List.not_mem_nil,or_false] at hp
 rcases hp with rfl | rfl <;>
  exact ⟨by kernel_rfl,deep_keyed (by kernel_rfl) (of_decide_eq_true (by kernel_rfl)) (by kernel_rfl) (by kernel_rfl),by kernel_rfl⟩
theorem place_ok {k:Kiln} {place:Int} (h:placeOk k place):(0≤k.2.1∧k.2.1≤100)∧placeB (k.1.getD place.toNat noPlace)=true:=by
 have K:=kiln_iff.1 h.1
 exact ⟨K.err,K.place _ (getD_mem' k.1 _ place h.2.1 h.2.2)⟩
theorem v46 (x:Kiln × Int × Int) (hp:k46.pre x):V46 x:=by
 obtain ⟨k,place,set⟩:=x
 obtain ⟨h1,h3⟩:placeOk k place∧setOk set:=hp
 obtain ⟨he,h2⟩:=place_ok h1
 obtain ⟨p,hpp⟩:∃ p,p=k.1.getD place.toNat noPlace:=⟨_,rfl⟩
 rw [←hpp] at h2
 have P:=place_iff.1 h2
 obtain ⟨q1,q2⟩:=least_bd he h2 h3
 have s1:=h3.1
 have s2:=h3.2
 have g:=v104 (k.2.1,p,set) ⟨he,h2,h3⟩
 rw [hpp] at g
 exact ⟨h1.2,g.1,g.2.1,g.2.2.1,g.2.2.2.1,rfl⟩
theorem v47 (x:Kiln × Int × Int) (hp:k47.pre x):V47 x:=by
 obtain ⟨k,place,set⟩:=x
 obtain ⟨h1,h3⟩:placeOk k place∧setOk set:=hp
 obtain ⟨he,h2⟩:=place_ok h1
 have g:=v103 (k.2.1,k.1.getD place.toNat noPlace,set) ⟨he,h2,h3⟩
 exact ⟨h1.2,g.1,g.2.1,g.2.2.1,g.2.2.2.1,rfl⟩
theorem v75 (x:Kiln × Int × Int × Int) (hp:k75.pre x):V75 x:=by
 obtain ⟨k,place,before,now⟩:=x
 obtain ⟨h1,h3,h4⟩:placeOk k place∧setOk before∧setOk now:=hp
 obtain ⟨he,h2⟩:=place_ok h1
 obtain ⟨f,hf⟩:∃ f:Fire,fireB f=true:=⟨(0,0,0,1,1,1),rfl⟩
 have g:=v85 ((k,f,k.1.getD place.toNat noPlace),before,now,0) ⟨⟨he,h2,hf⟩,h3,h4,by show (0:Int)≤0;omega,by show (0:Int)≤4000;omega⟩
 exact ⟨h1.2,g.1,g.2.1,g.2.2.1,g.2.2.2.1,rfl⟩
end Go.Fire
