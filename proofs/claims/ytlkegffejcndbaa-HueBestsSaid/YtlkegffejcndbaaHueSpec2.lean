/-
  Chapter 8: what the further functions give, in plain Lean.
-/
import Derived.Test.YtlkegffejcndbaaHueP7
set_option linter.all false


namespace Go.Hue
open Go Go.Sx

/-- The true stain of turn k in turn i. -/
def dp (plan : List Turn) (run wash : Int) (ds : List Int) (k i : Nat) : Int :=
  ds.getD (plan.getD k (0, 0)).1.toNat 0 - run * ((i : Int) - k - 1) - wash * wsum plan k (i - k)
def deepAt (plan : List Turn) (run wash : Int) (ds : List Int) (i : Nat) : Int := great ((List.range i).map fun k => dp plan run wash ds k i) 0
def law08u_deep (x : (List Turn) × Int × Int × List Int) : List Int := (List.range x.1.length).map (deepAt x.1 x.2.1 x.2.2.1 x.2.2.2)
def law08u_deep_p (x : (List Turn) × Int × Int × List Int) : Prop :=
  x.1.length ≤ 12 ∧ (∀ t ∈ x.1, 0 ≤ t.1 ∧ t.1 < (x.2.2.2.length : Int) ∧ 0 ≤ t.2 ∧ t.2 ≤ 2) ∧ (0 ≤ x.2.1 ∧ x.2.1 ≤ 10000) ∧ (0 ≤ x.2.2.1 ∧ x.2.2.1 ≤ 10000) ∧ ∀ d ∈ x.2.2.2, 0 ≤ d ∧ d ≤ 10000
def law08u_HueEnds (_ : Mill × (List Hue) × (List Turn) × Int) : Bool := true
def law08u_HueEnds_p (x : Mill × (List Hue) × (List Turn) × Int) : Prop := 0 ≤ x.2.2.2 ∧ x.2.2.2 ≤ 255
def law08u_pick (x : Span × Int) : Int := x.1.1 + Int.tmod x.2 (x.1.2 - x.1.1 + 1)
def law08u_pick_p (x : Span × Int) : Prop := 0 ≤ x.1.1 ∧ x.1.1 ≤ x.1.2 ∧ x.1.2 ≤ 10000 ∧ 0 ≤ x.2 ∧ x.2 ≤ 65535
def law08u_HueTrue (_ : Mill × (List Hue) × (List Turn) × List Int) : Bool := true
def law08u_HueTrue_p (x : Mill × (List Hue) × (List Turn) × List Int) : Prop := (∀ b ∈ x.2.2.2, 0 ≤ b ∧ b ≤ 65535) ∧ x.2.2.2.length ≤ 140737488355328
/-- What a plan costs, and does nothing show in it? -/
def costGo (m : Mill) (l : List Hue) (plan : List Turn) : Nat → Int
  | 0 => 0
  | i + 1 => costGo m l plan i + (inS m l plan i).2 + m.2.2 * (plan.getD i (0, 0)).2
def law08u_HueBest_1 (x : (List Turn) × Mill × List Hue) : Int × Bool :=
  cond (validB x.2.1 x.2.2 && planB x.2.2 x.1) (costGo x.2.1 x.2.2 x.1 x.1.length, (showsV x.2.1 x.2.2 x.1).2.2 == 4) (0, false)
def law08u_HueBest_1u_p (_ : (List Turn) × Mill × List Hue) : Prop := True
/-- From a place on, the first that is free. -/
def freeK (had : List Bool) (n : Nat) : Nat → Nat → Nat
  | 0, k => k
  | f + 1, k => cond (had.getD k false) (freeK had n f ((k + 1) % n)) k
def wholeGo (n : Nat) (b : List Int) : Nat → Nat → List Bool → List Turn
  | 0, _, _ => []
  | c + 1, i, had =>
    ((freeK had n n ((b.getD (i % b.length) 0).toNat % n) : Int), Int.tmod (Int.tdiv (b.getD ((i + 3) % b.length) 0) 16) 3) :: wholeGo n b c (i + 1) (had.set (freeK had n n ((b.getD (i % b.length) 0).toNat % n)) true)
def wholeV (n : Nat) (b : List Int) : List Turn := wholeGo n b n 0 (List.replicate n false)
def law08u_whole (x : (List Hue) × List Int) : List Turn := wholeV x.1.length x.2
def law08u_whole_p (x : (List Hue) × List Int) : Prop := x.1.length ≤ 12 ∧ x.2.length ≠ 0 ∧ x.2.length ≤ 140737488355328 ∧ ∀ b ∈ x.2, 0 ≤ b ∧ b ≤ 255
def law08u_HueBest (_ : Mill × (List Hue) × List Int) : Bool := true
def law08u_HueBest_p (x : Mill × (List Hue) × List Int) : Prop := (∀ b ∈ x.2.2, 0 ≤ b ∧ b ≤ 255) ∧ x.2.2.length ≤ 140737488355328
def law08u_HueMore (_ : Mill × (List Hue) × (List Turn) × Int × Int) : Bool := true
def law08u_HueMore_p (x : Mill × (List Hue) × (List Turn) × Int × Int) : Prop := (0 ≤ x.2.2.2.1 ∧ x.2.2.2.1 ≤ 255) ∧ (0 ≤ x.2.2.2.2 ∧ x.2.2.2.2 ≤ 255)
end Go.Hue
