/-
  Chapter 6: XrayEnds.
-/
import Derived.Test.YtkeeaadooechgaaXrP14
set_option linter.all false
set_option maxRecDepth 100000
set_option maxHeartbeats 4000000
set_option linter.unusedVariables false
namespace Go.Xr
open Go Go.Sx
theorem fits_app (c:Crate) (l:List Look) (m:Look):fitsL c (l++[m])=(fitsL c l).filter fun t=>fitB t m:=by
 unfold fitsL truthsV
 rw [List.filter_flatMap]
 congr 1
 funext a
 rw [List.filter_map,List.filter_filter]
 congr 1
 apply List.filter_congr
 intro b _
 show (l++[m]).all (fitB (a,b))=(fitB (a,b) m&&l.all (fitB (a,b)))
 rw [List.all_append]
 simp [Bool.and_comm]
theorem bit_lt {s:Int} {n k:Nat} (h0:0≤s) (h:s<2^n) (hb:hasB s (k:Nat)=true):k<n:=by
 refine Nat.lt_of_not_le fun hle=>?_
 have e:(2:Int)^n=((2^n:Nat):Int):=by simp
 rw [e] at h
 have h1:s.toNat<2^k:=Nat.lt_of_lt_of_le (show s.toNat<2^n by omega) (Nat.pow_le_pow_right (by decide) hle)
 unfold hasB at hb
 rw [Int.toNat_natCast,Nat.testBit_lt_two_pow h1] at hb
 cases hb
end Go.Xr
