/-
  Chapter 3: what the functions of FireTrue and FireEnds give, in plain Lean.
-/
import Derived.Test.YtfjkenhmaebpmaaFireP11
set_option linter.all false
set_option maxRecDepth 100000
set_option linter.unusedVariables false
namespace Go.Fire
open Go Go.Sx
def pickV (s : Span) (b : Int) : Int := s.1 + Int.tmod b (s.2 - s.1 + 1)
def law03u_pick (x : Span × Int) : Int := pickV x.1 x.2
def law03u_pick_p (x : Span × Int) : Prop := (-100000 ≤ x.1.1 ∧ x.1.1 ≤ x.1.2 ∧ x.1.2 ≤ 100000) ∧ 0 ≤ x.2 ∧ x.2 ≤ 65535
def byOk (by_ : List Int) : Prop := (∀ b ∈ by_, 0 ≤ b ∧ b ≤ 65535) ∧ 0 < by_.length ∧ by_.length ≤ 140737488355328
def gainV (p : Place) (by_ : List Int) : Int := pickV p.1 (by_.getD 0 0)
def offV (p : Place) (by_ : List Int) : Int := pickV p.2 (by_.getD (Int.toNat ((by_.length : Int) - 1)) 0)
def hourV (err : Int) (l by_ : List Int) (i : Nat) : Int := pickV (max 0 (l.getD i 0 - err), l.getD i 0 + err) (by_.getD (Int.toNat (Int.tmod (i : Int) (by_.length : Int))) 0)
def heatV (err : Int) (p : Place) (l by_ : List Int) (i : Nat) : Int := gainV p by_ * hourV err l by_ i + 1000 * offV p by_
def heatsV (err : Int) (p : Place) (l by_ : List Int) : List Int := (List.range l.length).map (heatV err p l by_)
def law03u_heats (x : Kiln × Int × (List Int) × List Int) : List Int := heatsV x.1.2.1 (x.1.1.getD x.2.1.toNat noPlace) x.2.2.1 x.2.2.2
def law03u_heats_p (x : Kiln × Int × (List Int) × List Int) : Prop := placeOk x.1 x.2.1 ∧ progB x.2.2.1 = true ∧ byOk x.2.2.2
def chn : Int → List Int → Int × Int
 | _, [] => (0, 0)
 | n, r :: t => cond (decide (0 ≤ r)) (n, r) (chn (n + 1) t)
def runB : List Bool → Int → Int → Int
 | [], _, best => best
 | b :: l, now, best => cond b (runB l (now + 1) (max best (now + 1))) (runB l 0 (max best 0))
def trueR (f : Fire) (l : List Int) : List Int :=
 [cond (decide (1000 * f.1 < l.getD 0 0)) 0 (-1), firstH 0 (fun e => decide (e.2 ≤ 1000 * f.2.2.1)) (restOf l 0),
  firstH ((1 : Nat) : Int) (fun e => decide (e.2 - e.1 ≤ 1000 * f.2.2.2.2.1)) (restOf l 0), firstH ((1 : Nat) : Int) (fun e => decide (e.1 - e.2 ≤ 1000 * f.2.2.2.2.2)) (restOf l 0),
  cond (decide (runB (l.map fun n => decide (1000 * f.2.1 ≤ n)) 0 0 < f.2.2.2.1)) 0 (-1), cond (decide (1000 * f.1 < l.getD (l.length - 1) 0)) ((l.length : Int) - 1) (-1)]
def breaksV (f : Fire) (l : List Int) : Int × Int := chn 1 (trueR f l)
def law03u_breaks (x : Fire × List Int) : Int × Int := breaksV x.1 x.2
def heatOk (n : Int) : Prop := -100000000 ≤ n ∧ n ≤ 100000000
def law03u_breaks_p (x : Fire × List Int) : Prop := ((0 ≤ x.1.1 ∧ x.1.1 ≤ 4000) ∧ (0 ≤ x.1.2.1 ∧ x.1.2.1 ≤ 4000) ∧ (0 ≤ x.1.2.2.1 ∧ x.1.2.2.1 ≤ 4000) ∧ (0 ≤ x.1.2.2.2.2.1 ∧ x.1.2.2.2.2.1 ≤ 4000) ∧ 0 ≤ x.1.2.2.2.2.2 ∧ x.1.2.2.2.2.2 ≤ 4000) ∧ (1 ≤ x.2.length ∧ x.2.length ≤ 1000) ∧ ∀ n ∈ x.2, heatOk n
abbrev HC := Int × Place × (List Int) × Kiln
def hcOk (x : HC) : Prop := (0 ≤ x.1 ∧ x.1 < (x.2.2.1.length : Int)) ∧ progB x.2.2.1 = true ∧ (0 ≤ x.2.2.2.2.1 ∧ x.2.2.2.2.1 ≤ 100) ∧ placeB x.2.1 = true
def law03u_FireEnds_1 (x : HC) : Int := mostV x.2.2.2.2.1 x.2.1 (x.2.2.1.getD x.1.toNat 0)
def law03u_FireEnds_1u_p (x : HC) : Prop := hcOk x
def law03u_FireEnds_2 (x : HC) : Int := x.2.1.1.2 * max 0 (x.2.2.1.getD x.1.toNat 0 - x.2.2.2.2.1) + 1000 * x.2.1.2.2
def law03u_FireEnds_2u_p (x : HC) : Prop := hcOk x
def law03u_FireTrue (_ : Kiln × Fire × (List Int) × List Int) : Bool := true
def law03u_FireTrue_p (x : Kiln × Fire × (List Int) × List Int) : Prop := (∀ b ∈ x.2.2.2, 0 ≤ b ∧ b ≤ 65535) ∧ x.2.2.2.length ≤ 140737488355328
def law03u_FireEnds (_ : Kiln × Fire × (List Int) × Int) : Bool := true
def law03u_FireEnds_p (_ : Kiln × Fire × (List Int) × Int) : Prop := True
end Go.Fire
