/-
  Chapter 6: XrayTrue.
-/
import Derived.Test.YtkeeaadooechgaaXrQ1
import Derived.Test.YtkeeaadooechgaaXrP16
set_option linter.all false
set_option maxRecDepth 100000
set_option maxHeartbeats 4000000
set_option linter.unusedVariables false
namespace Go.Xr
open Go Go.Sx
theorem sub_zero {a b:Int} (h:∀ k:Nat,hasB a (k:Nat)=true→hasB b (k:Nat)=true):(((a.toNat ^^^ (a.toNat &&& b.toNat):Nat):Int)==0)=true:=by
 have e:a.toNat &&& b.toNat=a.toNat:=by
  apply Nat.eq_of_testBit_eq
  intro k
  have:=h k
  simp only [hasB,Int.toNat_natCast] at this
  rw [Nat.testBit_and]
  cases ha:a.toNat.testBit k with
  | false=>rfl
  | true=>rw [this ha];rfl
 rw [e,Nat.xor_self];rfl
structure Within (c:Crate) (l:List Look) (t:Truth):Prop where
 went:Went c l
 mem:t∈fitsL c l
end Go.Xr
