/-
  Chapter 10: OrderLacks.
-/
import Derived.Test.YtdpfmofgibmifaaOrdR1
set_option linter.all false
set_option maxRecDepth 100000
set_option maxHeartbeats 4000000
set_option linter.unusedVariables false
namespace Go.Ord
open Go Go.Sx
theorem lack_spec {x:Sale} (h:saleB x=true):(mostV (lackM (worstM x)) (setsTo (2^x.2.length))=(0,0)∧order_Lack x=(0,0,4)) ∨
  (mostV (lackM (worstM x)) (setsTo (2^x.2.length))≠(0,0)∧order_Lack x=((mostV (lackM (worstM x)) (setsTo (2^x.2.length))).1,(mostV (lackM (worstM x)) (setsTo (2^x.2.length))).2,0)):=by
 have eL:order_Lack x=cond (mostV (lackM (worstM x)) (partsV (allV x.2.length))==(0,0)) (0,0,4) ((mostV (lackM (worstM x)) (partsV (allV x.2.length))).1,(mostV (lackM (worstM x)) (partsV (allV x.2.length))).2,0):=by rw [order_Lack,h];rfl
 rw [parts_all] at eL
 by_cases e:mostV (lackM (worstM x)) (setsTo (2^x.2.length))=(0,0)
 ·left
  exact ⟨e,by rw [eL,e];rfl⟩
 ·right
  exact ⟨e,by rw [eL,beq_eq_false_iff_ne.2 e];rfl⟩
end Go.Ord
