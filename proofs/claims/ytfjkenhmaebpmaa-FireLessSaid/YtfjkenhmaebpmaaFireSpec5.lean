/-
  Chapter 3: what the functions of FirePlan and FireLess give, in plain Lean.
-/
import Derived.Test.YtfjkenhmaebpmaaFireP11
set_option linter.all false
set_option maxRecDepth 100000
set_option linter.unusedVariables false
namespace Go.Fire
open Go Go.Sx
def ref03u_Places (x : Kiln × List Int) : Bool := placesB x.1 x.2 (-1) && decide (0 < (x.2.length : Int))
def ref03u_Places_p (x : Kiln × List Int) : Prop := x.1.1.length ≤ big ∧ x.2.length ≤ big
def stepAt (k : Kiln) (l : List Int) (i : Nat) : Bool :=
 !(!(Int.tmod (l.getD i 0) k.2.2.2 == 0) || (decide ((0 : Int) < (i : Int)) && decide (k.2.2.1 < max (l.getD i 0 - l.getD (i - 1) 0) (l.getD (i - 1) 0 - l.getD i 0))))
def stepsB (k : Kiln) (l : List Int) : Bool := (List.range l.length).all (stepAt k l)
def noneBad (bad places : List Int) : Bool := bad.all fun b => places.all fun p => !(b == p)
def bakesV (l : List Int) (k : Kiln) (f : Fire) (places : List Int) : Bool :=
 stepsB k l && ((fire_Check (k, f, l)).2 == 0 && noneBad (fire_Check (k, f, l)).1 places)
def law03u_FirePlan_1 (x : (List Int) × Kiln × Fire × List Int) : Bool := bakesV x.1 x.2.1 x.2.2.1 x.2.2.2
def law03u_FirePlan_1u_p (x : (List Int) × Kiln × Fire × List Int) : Prop := kilnB x.2.1 = true ∧ (x.1.length ≤ 1000 ∧ ∀ n ∈ x.1, -1000000 ≤ n ∧ n ≤ 1000000) ∧ x.2.2.2.length ≤ big
def law03u_FirePlan (_ : Kiln × Fire × (List Int) × List Int) : Bool := true
def law03u_FirePlan_p (x : Kiln × Fire × (List Int) × List Int) : Prop := ∀ b ∈ x.2.2.2, 0 ≤ b ∧ b ≤ 255
def law03u_FireLess (_ : Kiln × Fire × (List Int) × Int × Int) : Bool := true
def law03u_FireLess_p (x : Kiln × Fire × (List Int) × Int × Int) : Prop := (0 ≤ x.2.2.2.1 ∧ x.2.2.2.1 ≤ 255) ∧ 0 ≤ x.2.2.2.2 ∧ x.2.2.2.2 ≤ 255
end Go.Fire
