/-
  Chapter 8: what the document's own search for the best plan gives.
-/
import Derived.Test.YtlkegffejcndbaaHueB5
set_option linter.all false


namespace Go.Hue
open Go Go.Sx

def hasB (b : List Turn) (h : Int) : Bool := b.any fun t => t.1 == h
def ref08u_has (x : (List Turn) × Int) : Bool := hasB x.1 x.2
def ref08u_has_p (x : (List Turn) × Int) : Prop := x.1.length ≤ big
/-- All plans that go on from one, in their order. -/
def plansFrom (n : Nat) : Nat → List Turn → List (List Turn)
  | 0, b => [b]
  | f + 1, b => (List.range n).flatMap fun (h : Nat) => cond (hasB b (h : Int)) [] ((List.range 3).flatMap fun (w : Nat) => plansFrom n f (b ++ [((h : Int), (w : Int))]))
def ref08u_plans (x : Int × (List Turn) × List (List Turn)) : List (List Turn) := x.2.2 ++ plansFrom x.1.toNat (x.1.toNat - x.2.1.length) x.2.1
def ref08u_plans_p (x : Int × (List Turn) × List (List Turn)) : Prop :=
  0 ≤ x.1 ∧ x.1 ≤ 4 ∧ (x.2.1.length : Int) ≤ x.1 ∧ x.2.2.length + 16 ^ (x.1.toNat - x.2.1.length) ≤ 1000000
def m45 (x : Int × (List Turn) × List (List Turn)) : Nat := x.1.toNat - x.2.1.length
def ref08u_plans_q (y x : Int × (List Turn) × List (List Turn)) : Prop := ref08u_plans_p x ∧ m45 x < m45 y
def ref08u_Cost (x : Mill × (List Hue) × List Turn) : Int := costGo x.1 x.2.1 x.2.2 x.2.2.length
def ref08u_Cost_p (x : Mill × (List Hue) × List Turn) : Prop := validB x.1 x.2.1 = true ∧ planB x.2.1 x.2.2 = true
def ref08u_Best (x : Mill × List Hue) : (List Turn) × Int × Int := bestOut x.1 x.2
def ref08u_Best_p (x : Mill × List Hue) : Prop := x.2.length ≤ 12 ∧ (validB x.1 x.2 = true → x.2.length ≤ 4)
def law08u_HueBests (_ : Mill × List Hue) : Bool := true
def law08u_HueBests_p (_ : Mill × List Hue) : Prop := True
end Go.Hue
