/-
  Orders: what Share and Lack give.
-/
import Derived.Test.YtdhdklojcppfcaaTtOT
set_option linter.all false
set_option maxRecDepth 100000
set_option maxHeartbeats 4000000
set_option linter.unusedVariables false
namespace Go.Tt
open Go Go.Sx
structure LackIs (s:Sale):Prop where
 f:(0<(zaf s).2.1∧(zaf s).2.2=0)∨((zaf s).2.1=0∧(zaf s).2.2=4)
 s0:0<=(zaf s).1
 s1:(zaf s).1<2^s.2.length
 val:lackM (worstM s) (zaf s).1=(zaf s).2.1
end Go.Tt
