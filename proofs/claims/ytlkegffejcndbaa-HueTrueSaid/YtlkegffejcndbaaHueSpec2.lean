/-
  Chapter 8: what the further functions give, in plain Lean.
-/
import Derived.Test.YtlkegffejcndbaaHueP7
set_option linter.all false


namespace Go.Hue
open Go Go.Sx

/-- The true stain of turn k in turn i. -/
def dp (plan : List Turn) (run wash : Int) (ds : List Int) (k i : Nat) : Int :=
  ds.getD (plan.getD k (0, 0)).1.toNat 0 - run * ((i : Int) - k - 1) - wash * wsum plan k (i - k)
def deepAt (plan : List Turn) (run wash : Int) (ds : List Int) (i : Nat) : Int := great ((List.range i).map fun k => dp plan run wash ds k i) 0
def law08u_deep (x : (List Turn) × Int × Int × List Int) : List Int := (List.range x.1.length).map (deepAt x.1 x.2.1 x.2.2.1 x.2.2.2)
def law08u_deep_p (x : (List Turn) × Int × Int × List Int) : Prop :=
  x.1.length ≤ 12 ∧ (∀ t ∈ x.1, 0 ≤ t.1 ∧ t.1 < (x.2.2.2.length : Int) ∧ 0 ≤ t.2 ∧ t.2 ≤ 2) ∧ (0 ≤ x.2.1 ∧ x.2.1 ≤ 10000) ∧ (0 ≤ x.2.2.1 ∧ x.2.2.1 ≤ 10000) ∧ ∀ d ∈ x.2.2.2, 0 ≤ d ∧ d ≤ 10000
def law08u_HueEnds (_ : Mill × (List Hue) × (List Turn) × Int) : Bool := true
def law08u_HueEnds_p (x : Mill × (List Hue) × (List Turn) × Int) : Prop := 0 ≤ x.2.2.2 ∧ x.2.2.2 ≤ 255
def law08u_pick (x : Span × Int) : Int := x.1.1 + Int.tmod x.2 (x.1.2 - x.1.1 + 1)
def law08u_pick_p (x : Span × Int) : Prop := 0 ≤ x.1.1 ∧ x.1.1 ≤ x.1.2 ∧ x.1.2 ≤ 10000 ∧ 0 ≤ x.2 ∧ x.2 ≤ 65535
def law08u_HueTrue (_ : Mill × (List Hue) × (List Turn) × List Int) : Bool := true
def law08u_HueTrue_p (x : Mill × (List Hue) × (List Turn) × List Int) : Prop := (∀ b ∈ x.2.2.2, 0 ≤ b ∧ b ≤ 65535) ∧ x.2.2.2.length ≤ 140737488355328
end Go.Hue
