/-
  Chapter 6: the reference's truths, and what it makes of them.
-/
import Derived.Test.YtkeeaadooechgaaXrP12
set_option linter.all false
set_option maxRecDepth 100000
set_option maxHeartbeats 4000000
set_option linter.unusedVariables false
namespace Go.Xr
open Go Go.Sx
theorem v38 (x:Int × Int) (h:k38.pre x):V38 x:=by
 obtain ⟨h1,h2,h3⟩:=h
 have hb:=pow_bd (k:=x.2) h3
 have hin:Z.in64 (Int.tdiv x.1 (2^x.2.toNat)):=by
  simp only [smallSet] at h1
  exact tdiv_in h1.1 (by omega)
 exact ⟨⟨h2,h3⟩,⟨by show (2:Int)^x.2.toNat≠0;omega,hin⟩,by decide,has_tdiv h1.1 h2⟩
end Go.Xr
