/-
  Chapter 6: the chapter's examples.
-/
import Derived.Test.YtkeeaadooechgaaXrP9
set_option linter.all false
set_option maxRecDepth 100000
set_option maxHeartbeats 4000000
set_option linter.unusedVariables false
namespace Go.Xr
open Go Go.Sx
theorem two {a b:Nat} (h:a≤big∧b≤big):a≤big∧b≤big:=h
theorem few0:(xray_Fewest (crate0,0)).1.length≤big:=of_decide_eq_true (by kernel_rfl)
theorem v13 (x:Unit) (_:k13.pre x):V13 x:=by
 refine ⟨trivial,trivial,⟨by decide,by decide⟩,trivial,trivial,⟨by decide,by decide⟩,trivial,trivial,⟨by decide,by decide⟩,trivial,⟨by decide,by decide⟩,trivial,(by decide:crate0.1.length≤big),trivial,fun _=>⟨few0,by decide⟩,?_⟩
 show (_:Bool)=true
 kernel_rfl
end Go.Xr
