/-
  Chapter 10: OrderTrue and OrderCases: what is so in the worst case is so in each truth.
-/
import Derived.Test.YtdpfmofgibmifaaOrdP11
set_option linter.all false
set_option maxRecDepth 100000
set_option maxHeartbeats 4000000
set_option linter.unusedVariables false
namespace Go.Ord
open Go Go.Sx
theorem lackM_sum (m:Market) (X:Int):lackM m X=(sumN m.1.length fun k=>cond (hasB X (k:Nat)) (m.1.getD k 0) 0) - sumN m.2.1.length fun i=>cond (touchB (m.2.2.getD i 0) X) (m.2.1.getD i 0) 0:=by
 simp only [lackM,selS_sumN,Nat.zero_add]
structure Acc (P:Int->Int) (M:Int->Bool) (l:List Int) (b:Int × Int):Prop where
 met:M b.1=true
 val:P b.1=b.2
 mem:b.1=0∨b.1∈l
 nn:0<=b.2
 max:∀ x∈l,M x=true->P x<=b.2
 first:∀ x∈l,M x=true->P x=b.2->b.1<=x
theorem setsTo_mem {n:Nat} {x:Int}:x∈setsTo n↔0<=x∧x<(n:Int):=by
 simp only [setsTo,List.mem_map,List.mem_range]
 constructor
 ·rintro ⟨m,hm,rfl⟩;omega
 ·rintro ⟨h1,h2⟩;exact ⟨x.toNat,by omega,by omega⟩
theorem lack_empty (m:Market):lackM m 0=0:=by
 rw [lackM_sum]
 have h1:(sumN m.1.length fun k=>cond (hasB 0 (k:Nat)) (m.1.getD k 0) 0)=0:=by
  refine (zaZ (g:=fun _=>0) fun k _=>?_).trans (zbV _)
  simp [hasB]
 have h2:(sumN m.2.1.length fun i=>cond (touchB (m.2.2.getD i 0) 0) (m.2.1.getD i 0) 0)=0:=by
  refine (zaZ (g:=fun _=>0) fun k _=>?_).trans (zbV _)
  have:touchB (m.2.2.getD k 0) 0=false:=by simp [touchB]
  rw [this];rfl
 rw [h1,h2];rfl
end Go.Ord
