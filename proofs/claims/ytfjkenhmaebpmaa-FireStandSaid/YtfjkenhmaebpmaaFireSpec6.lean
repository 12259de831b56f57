/-
  Chapter 3: what the functions of FireStand give, in plain Lean.
-/
import Derived.Test.YtfjkenhmaebpmaaFireP11
set_option linter.all false
set_option maxRecDepth 100000
set_option linter.unusedVariables false
namespace Go.Fire
open Go Go.Sx
def canF (k : Kiln) (prog : List Int) (f : Fire) (p : Int) : Bool := (fire_Why (k, f, prog, p)).2.2 == 4
def law03u_FireStand_1 (x : Int × Int × Kiln × (List Fire) × List Int) : Bool := canF x.2.2.1 x.2.2.2.2 (x.2.2.2.1.getD x.1.toNat (0, 0, 0, 0, 0, 0)) x.2.1
def law03u_FireStand_1u_p (x : Int × Int × Kiln × (List Fire) × List Int) : Prop := 0 ≤ x.1 ∧ x.1 < (x.2.2.2.1.length : Int)
def standsGo (np : Nat) (F : Int → Int → Bool) : List Int → Int → Int → Int → Int
 | [], _, n, _ => n
 | p :: r, i, n, t => cond (p == -1) (standsGo np F r (i + 1) n t)
   (cond (((decide (p < 0) || decide ((np : Int) ≤ p)) || takenB t p) || !F i p) (-1) (standsGo np F r (i + 1) (n + 1) (takeV t p)))
def law03u_FireStand_2 (x : (List Int) × Kiln × Fun (Int × Int) Bool) : Int := standsGo x.2.1.1.length (fun i p => x.2.2.val (i, p)) x.1 0 0 0
def law03u_FireStand_2u_p (x : (List Int) × Kiln × Fun (Int × Int) Bool) : Prop :=
 x.2.1.1.length ≤ 8 ∧ x.1.length ≤ 8 ∧ ∀ i p, (0 ≤ i ∧ i < (x.1.length : Int)) → x.2.2.pre (i, p)
def law03u_FireStand (_ : Kiln × (List Fire) × (List Int) × List Int) : Bool := true
def law03u_FireStand_p (x : Kiln × (List Fire) × (List Int) × List Int) : Prop := (∀ b ∈ x.2.2.2, 0 ≤ b ∧ b ≤ 255) ∧ x.2.2.2.length ≤ 140737488355328
end Go.Fire
