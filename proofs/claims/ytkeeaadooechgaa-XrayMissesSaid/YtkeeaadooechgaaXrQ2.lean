/-
  Chapter 6: XrayTrue.
-/
import Derived.Test.YtkeeaadooechgaaXrQ1
import Derived.Test.YtkeeaadooechgaaXrP16
set_option linter.all false
set_option maxRecDepth 100000
set_option maxHeartbeats 4000000
set_option linter.unusedVariables false
namespace Go.Xr
open Go Go.Sx
theorem has_pow {r:Int} (h:0≤r) (k:Nat):hasB (2^r.toNat) (k:Nat)=decide ((k:Int)=r):=by
 unfold hasB
 rw [pow_int,Int.toNat_natCast,Int.toNat_natCast,Nat.testBit_two_pow]
 by_cases e:r.toNat=k
 ·rw [decide_eq_true e,decide_eq_true (by omega)]
 ·rw [decide_eq_false e,decide_eq_false (by omega)]
theorem lt_of_bits {s:Int} {N:Nat} (hs:smallSet s) (h:∀ k:Nat,N≤k→hasB s (k:Nat)=false):s<2^N:=by
 have:s.toNat<2^N:=by
  apply Nat.lt_pow_two_of_testBit
  intro k hk
  have:=h k hk
  unfold hasB at this
  rwa [Int.toNat_natCast] at this
 have e:(2:Int)^N=((2^N:Nat):Int):=by simp
 simp only [smallSet] at hs
 rw [e];omega
theorem sub_zero {a b:Int} (h:∀ k:Nat,hasB a (k:Nat)=true→hasB b (k:Nat)=true):(((a.toNat ^^^ (a.toNat &&& b.toNat):Nat):Int)==0)=true:=by
 have e:a.toNat &&& b.toNat=a.toNat:=by
  apply Nat.eq_of_testBit_eq
  intro k
  have:=h k
  simp only [hasB,Int.toNat_natCast] at this
  rw [Nat.testBit_and]
  cases ha:a.toNat.testBit k with
  | false=>rfl
  | true=>rw [this ha];rfl
 rw [e,Nat.xor_self];rfl
structure Within (c:Crate) (l:List Look) (t:Truth):Prop where
 went:Went c l
 mem:t∈fitsL c l
theorem within_of {c:Crate} {l:List Look} {t:Truth} (hc:CrateOk c) (hl:(l.length:Int)≤40) (hk:l.all (lookB c)=true) (ht:t∈fitsL c l):Within c l t:=⟨⟨hc,hl,hk,List.ne_nil_of_mem ht⟩,ht⟩
end Go.Xr
