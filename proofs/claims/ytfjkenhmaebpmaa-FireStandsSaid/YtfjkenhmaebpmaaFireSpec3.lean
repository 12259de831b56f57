/-
  Chapter 3: what the reference's functions of Stand give, in plain Lean.
-/
import Derived.Test.YtfjkenhmaebpmaaFireP11
set_option linter.all false


set_option maxRecDepth 100000
set_option linter.unusedVariables false
namespace Go.Fire
open Go Go.Sx

def ref03u_Can (x : Kiln × Fire × (List Int) × Int) : Bool := (ref03u_Broken x).1 == 0
def ref03u_Can_p (x : Kiln × Fire × (List Int) × Int) : Prop := brokenP x
/-- Places that are taken, by bits. -/
def mask : List Bool → Nat
  | [] => 0
  | b :: r => b.toNat + 2 * mask r
def maskI (t : List Bool) : Int := ((mask t : Nat) : Int)
def ref03u_many (x : Kiln × (List Fire) × (List Int) × Int × List Bool) : Int := manyV (canOf x.1 x.2.1 x.2.2.1).val x.1.1.length x.2.1.length x.2.2.2.1 (maskI x.2.2.2.2)
def ref03u_many_p (x : Kiln × (List Fire) × (List Int) × Int × List Bool) : Prop :=
  (kilnB x.1 = true ∧ x.2.1.all fireB = true ∧ progB x.2.2.1 = true ∧ x.2.1.length ≤ 8) ∧ (0 ≤ x.2.2.2.1 ∧ x.2.2.2.1 ≤ (x.2.1.length : Int)) ∧ x.2.2.2.2.length = x.1.1.length
def m64 (x : Kiln × (List Fire) × (List Int) × Int × List Bool) : Nat := ((x.2.1.length : Int) - x.2.2.2.1).toNat
def ref03u_many_q (y x : Kiln × (List Fire) × (List Int) × Int × List Bool) : Prop := ref03u_many_p x ∧ m64 x < m64 y
def ref03u_Stand (x : Kiln × (List Fire) × List Int) : (List Int) × Int := standV x.1 x.2.1 x.2.2
def ref03u_Stand_p (x : Kiln × (List Fire) × List Int) : Prop := x.1.1.length ≤ big ∧ x.2.1.length ≤ big
def law03u_FireStands (_ : Kiln × (List Fire) × List Int) : Bool := true
def law03u_FireStands_p (_ : Kiln × (List Fire) × List Int) : Prop := True
end Go.Fire
