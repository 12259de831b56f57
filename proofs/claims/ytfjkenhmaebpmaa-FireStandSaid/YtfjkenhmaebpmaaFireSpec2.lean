/-
  Chapter 3: what the reference's functions of Heat, Check and Why give, in plain Lean.
-/
import Derived.Test.YtfjkenhmaebpmaaFireP8
set_option linter.all false
set_option maxRecDepth 100000
set_option linter.unusedVariables false
namespace Go.Fire
open Go Go.Sx
abbrev noPlace : Place := ((0, 0), 0, 0)
def placeOk (k : Kiln) (place : Int) : Prop := kilnB k = true ∧ 0 ≤ place ∧ place < (k.1.length : Int)
def ref03u_Down (x : Int) : Int := x / 1000
def ref03u_Down_p (x : Int) : Prop := -1000000000 ≤ x ∧ x ≤ 1000000000
def ref03u_Least (x : Kiln × Int × Int) : Int := leastV x.1.2.1 (x.1.1.getD x.2.1.toNat noPlace) x.2.2
def ref03u_Least_p (x : Kiln × Int × Int) : Prop := placeOk x.1 x.2.1 ∧ setOk x.2.2
def ref03u_Most (x : Kiln × Int × Int) : Int := mostV x.1.2.1 (x.1.1.getD x.2.1.toNat noPlace) x.2.2
def ref03u_Most_p (x : Kiln × Int × Int) : Prop := placeOk x.1 x.2.1 ∧ setOk x.2.2
def moreV (err : Int) (p : Place) (before now : Int) : Int := max 0 (p.1.2 * (now + err - max 0 (before - err)))
def ref03u_More (x : Kiln × Int × Int × Int) : Int := moreV x.1.2.1 (x.1.1.getD x.2.1.toNat noPlace) x.2.2.1 x.2.2.2
def ref03u_More_p (x : Kiln × Int × Int × Int) : Prop := placeOk x.1 x.2.1 ∧ setOk x.2.2.1 ∧ setOk x.2.2.2
def runMax (s : Stand) : List Int → Int → Int → Int
 | [], _, best => best
 | set :: l, now, best => cond (soakV s set) (runMax s l (now + 1) (max best (now + 1))) (runMax s l 0 (max best 0))
def standAt (k : Kiln) (f : Fire) (place : Int) : Stand := (k, f, k.1.getD place.toNat noPlace)
def ref03u_soaked (x : Kiln × Fire × (List Int) × Int) : Int := runMax (standAt x.1 x.2.1 x.2.2.2) x.2.2.1 0 0
def brokenP (x : Kiln × Fire × (List Int) × Int) : Prop := placeOk x.1 x.2.2.2 ∧ fireB x.2.1 = true ∧ progB x.2.2.1 = true
def ref03u_soaked_p (x : Kiln × Fire × (List Int) × Int) : Prop := brokenP x
def ref03u_Broken (x : Kiln × Fire × (List Int) × Int) : Int × Int := fire_stand_broken (standAt x.1 x.2.1 x.2.2.2, x.2.2.1)
def ref03u_Broken_p (x : Kiln × Fire × (List Int) × Int) : Prop := brokenP x
def ref03u_Fires (x : List Fire) : Bool := x.all fireB
def ref03u_Fires_p (x : List Fire) : Prop := x.length ≤ big
def ref03u_check (x : Kiln × (List Fire) × List Int) : Int := fire_check (x.1, x.2.2, x.2.1)
def ref03u_check_p (x : Kiln × (List Fire) × List Int) : Prop := x.1.1.length ≤ big ∧ x.2.1.length ≤ big
def ref03u_Heat (x : Kiln × Int × Int) : (Int × Int) × Int := heatOf x.1 x.2.1 x.2.2
def ref03u_Heat_p (x : Kiln × Int × Int) : Prop := x.1.1.length ≤ big
def ref03u_Check (x : Kiln × Fire × List Int) : (List Int) × Int := checkV x.1 x.2.1 x.2.2
def ref03u_Check_p (x : Kiln × Fire × List Int) : Prop := x.1.1.length ≤ big
def ref03u_Why (x : Kiln × Fire × (List Int) × Int) : Int × Int × Int := whyV x.1 x.2.1 x.2.2.1 x.2.2.2
def ref03u_Why_p (x : Kiln × Fire × (List Int) × Int) : Prop := x.1.1.length ≤ big
def law03u_FireChecks (_ : Kiln × Fire × (List Int) × Int × Int) : Bool := true
def law03u_FireChecks_p (_ : Kiln × Fire × (List Int) × Int × Int) : Prop := True
end Go.Fire
