/-
  Chapter 4: what the two last laws give, in plain Lean.
-/
import Derived.Test.YtihkgphflgojeaaDieV1
set_option linter.all false


namespace Go.Die
open Go Go.Sx

def law04u_DieEnds_1 (x : Int × Press × Int × Span) : Bool := decide (1000 * x.2.2.2.1 ≤ thin (mountV x.2.1 x.2.2.1.toNat) x.1) && decide (thick (mountV x.2.1 x.2.2.1.toNat) x.1 ≤ 1000 * x.2.2.2.2)
def law04u_DieEnds_1u_p (x : Int × Press × Int × Span) : Prop := pressB x.2.1 = true ∧ (0 ≤ x.2.2.1 ∧ x.2.2.1 < (x.2.1.1.length : Int)) ∧ usedOk x.1 ∧ spanB x.2.2.2 0 20000 = true
def law04u_DieEnds (_ : Press × Int × Int × Span × Int) : Bool := true
def law04u_DieEnds_p (x : Press × Int × Int × Span × Int) : Prop := 0 ≤ x.2.2.2.2 ∧ x.2.2.2.2 ≤ 65535
def law04u_DieMore (_ : Press × (List Draw) × Die × Int × Int) : Bool := true
def law04u_DieMore_p (x : Press × (List Draw) × Die × Int × Int) : Prop := (0 ≤ x.2.2.2.1 ∧ x.2.2.2.1 ≤ 255) ∧ 0 ≤ x.2.2.2.2 ∧ x.2.2.2.2 ≤ 255
end Go.Die
