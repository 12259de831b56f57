/-
  Chapter 6: XrayEnds.
-/
import Derived.Test.YtkeeaadooechgaaXrP14
set_option linter.all false
set_option maxRecDepth 100000
set_option maxHeartbeats 4000000
set_option linter.unusedVariables false
namespace Go.Xr
open Go Go.Sx
theorem great_len {c:Crate} {n:Int} (h:law06u_great (c,n)=false):c.1.length≤16:=by
 unfold law06u_great at h
 rw [Bool.or_eq_false_iff] at h
 have:=of_decide_eq_false h.1
 simp only at this
 omega
theorem countP_not' {α:Type} (p:α→Bool) (l:List α):l.countP (fun a=>!p a)+l.countP p=l.length:=by
 induction l with
 | nil=>rfl
 | cons a l ih =>
  simp only [List.countP_cons,List.length_cons]
  cases p a<;>simp<;>omega
theorem bit_lt {s:Int} {n k:Nat} (h0:0≤s) (h:s<2^n) (hb:hasB s (k:Nat)=true):k<n:=by
 refine Nat.lt_of_not_le fun hle=>?_
 have e:(2:Int)^n=((2^n:Nat):Int):=by simp
 rw [e] at h
 have h1:s.toNat<2^k:=Nat.lt_of_lt_of_le (show s.toNat<2^n by omega) (Nat.pow_le_pow_right (by decide) hle)
 unfold hasB at hb
 rw [Int.toNat_natCast,Nat.testBit_lt_two_pow h1] at hb
 cases hb
end Go.Xr
