/-
  Chapter 13: what the further functions give, in plain Lean.
-/
import Derived.Test.YtmbaggjpbjpljaaDustP6
set_option linter.all false


namespace Go.Dust
open Go Go.Sx

def law13u_pick (x : Span × Int) : Int := x.1.1 + Int.tmod x.2 (x.1.2 - x.1.1 + 1)
def law13u_pick_p (x : Span × Int) : Prop := 0 ≤ x.1.1 ∧ x.1.1 ≤ x.1.2 ∧ x.1.2 ≤ 1000 ∧ 0 ≤ x.2 ∧ x.2 ≤ 65535
def law13u_DustTrue (_ : Burn × (List Load) × List Int) : Bool := true
def law13u_DustTrue_p (x : Burn × (List Load) × List Int) : Prop := (∀ b ∈ x.2.2, 0 ≤ b ∧ b ≤ 65535) ∧ x.2.2.length ≤ 140737488355328
def law13u_DustBest (_ : Burn × (List Load) × List Int) : Bool := true
def law13u_DustBest_p (x : Burn × (List Load) × List Int) : Prop := (∀ b ∈ x.2.2, 0 ≤ b ∧ b ≤ 255) ∧ x.2.2.length ≤ 140737488355328
def law13u_DustMore (_ : Burn × (List Load) × Int) : Bool := true
def law13u_DustMore_p (x : Burn × (List Load) × Int) : Prop := 0 ≤ x.2.2 ∧ x.2.2 ≤ 255
/-- What the rest costs at least, of each number of sacks that are left; -1 if it cannot be. -/
def costRow (b : Burn) (l : List Load) : List Int := (List.range 61).map fun (left : Nat) => cond (bestG b l (left : Int)).2.2 (bestG b l (left : Int)).2.1 (-1)
def costsV (b : Burn) : List Load → List (List Int)
  | [] => [costRow b []]
  | x :: l => costRow b (x :: l) :: costsV b l
def ref13u_costs (x : Burn × List Load) : List (List Int) := costsV x.1 x.2
def ref13u_costs_p (x : Burn × List Load) : Prop := burnB x.1 = true ∧ loadsB x.2 = true
def ref13u_Best (x : Burn × List Load) : (List Feed) × Int × Int := bestOut x.1 x.2
def ref13u_Best_p (x : Burn × List Load) : Prop := x.2.length ≤ big
def law13u_DustBests (_ : Burn × List Load) : Bool := true
def law13u_DustBests_p (_ : Burn × List Load) : Prop := True
end Go.Dust
