/-
  Chapter 3: the reference's Check and Why, and FireChecks: their conditions proved.
-/
import Derived.Test.YtfjkenhmaebpmaaFireP10
set_option linter.all false
set_option maxRecDepth 100000
set_option linter.unusedVariables false
namespace Go.Fire
open Go Go.Sx
theorem sameL_refl:∀ l:List Int,sameL l l=true
 | []=>rfl
 | a::l=>by rw [sameL,sameL_refl l];simp
theorem bads_len (k:Kiln) (f:Fire) (l:List Int):∀ (n i:Nat),(badsFrom k f l n i).length≤n
 | 0,_=>Nat.le_refl _
 | n+1,i=>by
  have:=bads_len k f l n (i+1)
  rw [badsFrom]
  cases badAt k f l i with
  | true=>simp only [cond_true,List.length_cons];omega
  | false=>simp only [cond_false];omega
theorem check_len (k:Kiln) (f:Fire) (l:List Int):(checkV k f l).1.length≤k.1.length:=by
 unfold checkV
 cases !(fire_check (k,l,[f])==0) with
 | true=>exact Nat.zero_le _
 | false=>exact bads_len k f l _ _
theorem v3 (x:Kiln × Fire × (List Int) × Int × Int) (_:k3.pre x):V3 x:=by
 obtain ⟨k,f,l,place,set⟩:=x
 refine ⟨fun _=>⟨trivial,rfl⟩,fun h=>?_⟩
 have h:(decide ((14:Int)<(k.1.length:Int))||decide ((50:Int)<(l.length:Int)))=false:=h
 simp only [Bool.or_eq_false_iff,decide_eq_false_iff_not] at h
 have hb:k.1.length≤big:=by simp only [big];omega
 have e1:ref03u_Heat (k,place,set)=fire_Heat (k,place,set):=rfl
 have e2:ref03u_Check (k,f,l)=fire_Check (k,f,l):=rfl
 have e3:ref03u_Why (k,f,l,place)=fire_Why (k,f,l,place):=rfl
 refine ⟨trivial,hb,trivial,hb,trivial,hb,fun _=>Nat.le_trans (check_len k f l) hb,fun _=>trivial,?_⟩
 show _=true
 dsimp only
 rw [e1,e2,e3]
 have e4:ref03u_Ints ((fire_Check (k,f,l)).1,(fire_Check (k,f,l)).1)=true:=sameL_refl _
 rw [e4]
 simp [law03u_alive]
end Go.Fire
