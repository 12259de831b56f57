/-
  Chapter 4: what the further functions give, in plain Lean.
-/
import Derived.Test.YtihkgphflgojeaaDieP7
set_option linter.all false


namespace Go.Die
open Go Go.Sx

def law04u_pick (x : Span × Int) : Int := x.1.1 + Int.tmod x.2 (x.1.2 - x.1.1 + 1)
def law04u_pick_p (x : Span × Int) : Prop := 0 ≤ x.1.1 ∧ x.1.1 ≤ x.1.2 ∧ x.1.2 ≤ 1000 ∧ 0 ≤ x.2 ∧ x.2 ≤ 65535
def ref04u_Cost (x : Press × List Int) : Int := costGo x.1 (-1) x.2
def ref04u_Cost_p (x : Press × List Int) : Prop := pressB x.1 = true ∧ x.2.length ≤ 20 ∧ ∀ k ∈ x.2, 0 ≤ k ∧ k ≤ 10
/-- All plans that go on from one, in their order. -/
def plansFrom (n : Nat) : Nat → List Int → List (List Int)
  | 0, b => [b]
  | f + 1, b => (List.range n).flatMap fun (k : Nat) => plansFrom n f (b ++ [(k : Int)])
def ref04u_plans (x : Int × Int × (List Int) × List (List Int)) : List (List Int) := x.2.2.2 ++ plansFrom x.2.1.toNat (x.1.toNat - x.2.2.1.length) x.2.2.1
def ref04u_plans_p (x : Int × Int × (List Int) × List (List Int)) : Prop :=
  0 ≤ x.1 ∧ x.1 ≤ 8 ∧ 0 ≤ x.2.1 ∧ x.2.1 ≤ 4 ∧ (x.2.2.1.length : Int) ≤ x.1 ∧ x.2.2.2.length + 4 ^ (x.1.toNat - x.2.2.1.length) ≤ 1000000
def m45 (x : Int × Int × (List Int) × List (List Int)) : Nat := x.1.toNat - x.2.2.1.length
def ref04u_plans_q (y x : Int × Int × (List Int) × List (List Int)) : Prop := ref04u_plans_p x ∧ m45 x < m45 y
def ref04u_Plan (x : Press × List Draw) : (List Int) × Int × Int := planOut x.1 x.2
def ref04u_Plan_p (x : Press × List Draw) : Prop := x.1.1.length ≤ big ∧ x.2.length ≤ big
def law04u_DiePlans (_ : Press × List Draw) : Bool := true
def law04u_DiePlans_p (_ : Press × List Draw) : Prop := True
def law04u_DieTrue (_ : Press × (List Draw) × List Int) : Bool := true
def law04u_DieTrue_p (x : Press × (List Draw) × List Int) : Prop := (∀ b ∈ x.2.2, 0 ≤ b ∧ b ≤ 65535) ∧ x.2.2.length ≤ 140737488355328
def law04u_DieBest (_ : Press × (List Draw) × List Int) : Bool := true
def law04u_DieBest_p (x : Press × (List Draw) × List Int) : Prop := (∀ b ∈ x.2.2, 0 ≤ b ∧ b ≤ 255) ∧ x.2.2.length ≤ 140737488355328
end Go.Die
