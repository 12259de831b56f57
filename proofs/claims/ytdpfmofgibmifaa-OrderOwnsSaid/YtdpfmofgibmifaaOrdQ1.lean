/-
  Chapter 10: OrderTrue and OrderCases: what is so in the worst case is so in each truth.
-/
import Derived.Test.YtdpfmofgibmifaaOrdP11
set_option linter.all false
set_option maxRecDepth 100000
set_option maxHeartbeats 4000000
set_option linter.unusedVariables false
namespace Go.Ord
open Go Go.Sx
structure Acc (P:Int→Int) (M:Int→Bool) (l:List Int) (b:Int × Int):Prop where
 met:M b.1=true
 val:P b.1=b.2
 mem:b.1=0∨b.1∈l
 nn:0≤b.2
 max:∀ x∈l,M x=true→P x≤b.2
 first:∀ x∈l,M x=true→P x=b.2→b.1≤x
end Go.Ord
