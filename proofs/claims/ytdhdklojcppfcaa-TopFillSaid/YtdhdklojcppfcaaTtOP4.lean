/-
  Chapter 10: conditions of the flow's functions, proved.
-/
import Derived.Test.YtdhdklojcppfcaaTtOP3
import Derived.Test.YtdhdklojcppfcaaTtO4
set_option linter.all false
set_option maxRecDepth 100000
set_option maxHeartbeats 4000000
set_option linter.unusedVariables false
namespace Go.Tt
open Go Go.Sx
theorem v87 (x:List Int) (h:k87.pre x):V87 x:=by
 have h:x.length<=1000:=h
 have e:(List.replicate 0 (0:Int))++x=x:=rfl
 refine ⟨trivial,fun hx=>⟨fun _=>?_,fun h=>(by cases h)⟩,fun h=>(by cases h),fun _=>⟨roomy_of (by decide) (by decide) (by rw [e];omega),rfl⟩⟩
 exact hx.symm
end Go.Tt
