/-
  TopFuel: what the functions of the kiln's heat give, in plain Lean.
-/
import Derived.Test.YtpdnhclkelgecaaFuelDust
set_option linter.all false


namespace Go.Fuel
open Go Go.Sx

/-- Gain, Off. -/
abbrev Place := (Int × Int) × Int × Int
/-- Places, Err, Ramp, Step. -/
abbrev Kiln := (List Place) × Int × Int × Int
/-- Cool, Soak, Top, Hold, Rise, Fall. -/
abbrev Fire := Int × Int × Int × Int × Int × Int
abbrev Stand := Kiln × Fire × Place

def placeB (p : Place) : Bool := spanB p.1 500 1500 && spanB p.2 (-200) 200
def kilnB (k : Kiln) : Bool := inB (k.1.length : Int) 1 8 && (inB k.2.1 0 100 && (inB k.2.2.1 1 2000 && (inB k.2.2.2 50 2000 && k.1.all placeB)))
def fireB (f : Fire) : Bool := (inB f.1 0 f.2.1 && (decide (f.2.1 ≤ f.2.2.1) && decide (f.2.2.1 ≤ 4000))) && (inB f.2.2.2.1 1 12 && (inB f.2.2.2.2.1 1 4000 && inB f.2.2.2.2.2 1 4000))
def heatB (n : Int) : Bool := inB n 0 2000
def progB (l : List Int) : Bool := inB (l.length : Int) 1 40 && l.all heatB
def mostV (err : Int) (p : Place) (set : Int) : Int := p.1.2 * (set + err) + 1000 * p.2.2
def leastV (err : Int) (p : Place) (set : Int) : Int := p.1.1 * (max 0 (set - err)) + 1000 * p.2.1
def heatOf (k : Kiln) (place set : Int) : (Int × Int) × Int :=
  cond (!kilnB k) ((0, 0), 1) (cond (!inB place 0 ((k.1.length : Int) - 1) || !heatB set) ((0, 0), 2)
    ((leastV k.2.1 (k.1.getD place.toNat ((0, 0), 0, 0)) set / 1000, -((-(mostV k.2.1 (k.1.getD place.toNat ((0, 0), 0, 0)) set)) / 1000)), 0))
def coldV (s : Stand) (set heat : Int) : Bool := decide (mostV s.1.2.1 s.2.2 set ≤ 1000 * heat)
def soakV (s : Stand) (set : Int) : Bool := decide (1000 * s.2.1.2.1 ≤ leastV s.1.2.1 s.2.2 set)
def slowV (s : Stand) (before now by_ : Int) : Bool := decide (s.2.2.1.2 * (now + s.1.2.1 - max 0 (before - s.1.2.1)) ≤ 1000 * by_)
/-- The numbers of a program, each with the one before it. -/
def hourAt (l : List Int) (i : Nat) : Int × List Int := ((i : Int), [l.getD (i - 1) 0, l.getD i 0])
def hoursV (l : List Int) : List (Int × List Int) := (List.range l.length).map (hourAt l)
def firstH (from_ : Int) (F : Int × Int → Bool) : List (Int × List Int) → Int
  | [] => -1
  | e :: r => cond (decide (from_ ≤ e.1) && !F (e.2.getD 0 0, e.2.getD 1 0)) e.1 (firstH from_ F r)
def firstOf (l : List Int) (from_ : Int) (F : Int × Int → Bool) : Int := firstH from_ F (hoursV l)
/-- Have leads been soaked for long enough? -/
def heldV (s : Stand) : List Int → Int → Bool
  | [], _ => false
  | set :: l, many => cond (!soakV s set) (heldV s l 0) (cond (many + 1 == s.2.1.2.2.2.1) true (heldV s l (many + 1)))
def setOk (n : Int) : Prop := 0 ≤ n ∧ n ≤ 2000
def standOk (s : Stand) : Prop := (0 ≤ s.1.2.1 ∧ s.1.2.1 ≤ 100) ∧ placeB s.2.2 = true ∧ fireB s.2.1 = true
def listOk (l : List Int) : Prop := progB l = true

/-! ### The functions -/
def fire_within (x : Int × Int × Int) : Bool := inB x.1 x.2.1 x.2.2
def fire_within_p (_ : Int × Int × Int) : Prop := True
def ref03u_in (x : Int × Int × Int) : Bool := inB x.1 x.2.1 x.2.2
def ref03u_in_p (_ : Int × Int × Int) : Prop := True
def fire_isSpan (x : Span × Int × Int) : Bool := spanB x.1 x.2.1 x.2.2
def fire_isSpan_p (_ : Span × Int × Int) : Prop := True
def ref03u_span (x : Span × Int × Int) : Bool := spanB x.1 x.2.1 x.2.2
def ref03u_span_p (_ : Span × Int × Int) : Prop := True
def fire_isHeat (x : Int) : Bool := heatB x
def fire_isHeat_p (_ : Int) : Prop := True
def fire_check_1 (x : Int) : Bool := !heatB x
def fire_check_1u_p (_ : Int) : Prop := True
def fire_isKiln_1 (x : Place) : Bool := !placeB x
def fire_isKiln_1u_p (_ : Place) : Prop := True
def slices_IndexFunc_Lint_int (x : (List Int) × Fun Int Bool) : Int := ixF x.2.val x.1 0
def slices_IndexFunc_Lint_int_p (x : (List Int) × Fun Int Bool) : Prop := x.1.length ≤ big ∧ ∀ a ∈ x.1, x.2.pre a
def slices_ContainsFunc_Lint_int (x : (List Int) × Fun Int Bool) : Bool := x.1.any x.2.val
def slices_ContainsFunc_Lint_int_p (x : (List Int) × Fun Int Bool) : Prop := x.1.length ≤ big ∧ ∀ a ∈ x.1, x.2.pre a
def slices_IndexFunc_Lapi_Place_api_Place (x : (List Place) × Fun Place Bool) : Int := ixF x.2.val x.1 0
def slices_IndexFunc_Lapi_Place_api_Place_p (x : (List Place) × Fun Place Bool) : Prop := x.1.length ≤ big ∧ ∀ a ∈ x.1, x.2.pre a
def slices_ContainsFunc_Lapi_Place_api_Place (x : (List Place) × Fun Place Bool) : Bool := x.1.any x.2.val
def slices_ContainsFunc_Lapi_Place_api_Place_p (x : (List Place) × Fun Place Bool) : Prop := x.1.length ≤ big ∧ ∀ a ∈ x.1, x.2.pre a
def fire_isKiln (x : Kiln) : Bool := kilnB x
def fire_isKiln_p (_ : Kiln) : Prop := True
def ref03u_Kiln (x : Kiln) : Bool := kilnB x
def ref03u_Kiln_p (x : Kiln) : Prop := x.1.length ≤ 140737488355328
def fire_areFires (x : List Fire) : Bool := x.all fireB
def fire_areFires_p (x : List Fire) : Prop := x.length ≤ big
def ref03u_Fire (x : Fire) : Bool := fireB x
def ref03u_Fire_p (_ : Fire) : Prop := True
def ref03u_Program (x : List Int) : Bool := progB x
def ref03u_Program_p (x : List Int) : Prop := x.length ≤ 140737488355328
def fire_check (x : Kiln × (List Int) × List Fire) : Int :=
  cond (!kilnB x.1 || !x.2.2.all fireB) 1 (cond (decide ((40 : Int) < (x.2.1.length : Int)) || decide ((8 : Int) < (x.2.2.length : Int))) 3 (cond (((x.2.1.length : Int) == 0) || x.2.1.any fun n => !heatB n) 2 0))
def fire_check_p (x : Kiln × (List Int) × List Fire) : Prop := x.2.2.length ≤ big
def fire_thousandth (x : Int) : Int := x / 1000
def fire_thousandth_p (x : Int) : Prop := -1000000000 ≤ x ∧ x ≤ 1000000000
def fire_most_of (x : Int × Place × Int) : Int := mostV x.1 x.2.1 x.2.2
def fire_most_of_p (x : Int × Place × Int) : Prop := (0 ≤ x.1 ∧ x.1 ≤ 100) ∧ placeB x.2.1 = true ∧ setOk x.2.2
def fire_least_of (x : Int × Place × Int) : Int := leastV x.1 x.2.1 x.2.2
def fire_least_of_p (x : Int × Place × Int) : Prop := (0 ≤ x.1 ∧ x.1 ≤ 100) ∧ placeB x.2.1 = true ∧ setOk x.2.2
def fire_Heat (x : Kiln × Int × Int) : (Int × Int) × Int := heatOf x.1 x.2.1 x.2.2
def fire_Heat_p (_ : Kiln × Int × Int) : Prop := True
def fire_stand_isCold (x : Stand × Int × Int) : Bool := coldV x.1 x.2.1 x.2.2
def fire_stand_isCold_p (x : Stand × Int × Int) : Prop := standOk x.1 ∧ setOk x.2.1 ∧ 0 ≤ x.2.2 ∧ x.2.2 ≤ 4000
def fire_stand_isSoaked (x : Stand × Int) : Bool := soakV x.1 x.2
def fire_stand_isSoaked_p (x : Stand × Int) : Prop := standOk x.1 ∧ setOk x.2
def fire_stand_isSlow (x : Stand × Int × Int × Int) : Bool := slowV x.1 x.2.1 x.2.2.1 x.2.2.2
def fire_stand_isSlow_p (x : Stand × Int × Int × Int) : Prop := standOk x.1 ∧ setOk x.2.1 ∧ setOk x.2.2.1 ∧ 0 ≤ x.2.2.2 ∧ x.2.2.2 ≤ 4000
def fire_hours_1 (x : List Int) : List (Int × List Int) := hoursV x
def fire_hours_1u_p (x : List Int) : Prop := x.length ≤ big
def fire_hours (x : List Int) : Seq (Int × List Int) := ⟨fire_hours_1u_p x, fire_hours_1 x⟩
def fire_hours_p (_ : List Int) : Prop := True
def fire_first (x : (List Int) × Int × Fun (Int × Int) Bool) : Int := firstOf x.1 x.2.1 x.2.2.val
def fire_first_p (x : (List Int) × Int × Fun (Int × Int) Bool) : Prop := x.1.length ≤ big ∧ ∀ e ∈ hoursV x.1, x.2.2.pre (e.2.getD 0 0, e.2.getD 1 0)
def fire_rules_1u_1 (x : Int × Int × Stand) : Bool := coldV x.2.2 x.2.1 x.2.2.2.1.1
def fire_rules_1u_1u_p (x : Int × Int × Stand) : Prop := standOk x.2.2 ∧ setOk x.2.1
def fire_rules_2u_1 (x : Int × Int × Stand) : Bool := coldV x.2.2 x.2.1 x.2.2.2.1.2.2.1
def fire_rules_2u_1u_p (x : Int × Int × Stand) : Prop := standOk x.2.2 ∧ setOk x.2.1
def fire_rules_3u_1 (x : Int × Int × Stand) : Bool := slowV x.2.2 x.1 x.2.1 x.2.2.2.1.2.2.2.2.1
def fire_rules_3u_1u_p (x : Int × Int × Stand) : Prop := standOk x.2.2 ∧ setOk x.1 ∧ setOk x.2.1
def fire_rules_4u_1 (x : Int × Int × Stand) : Bool := slowV x.2.2 x.2.1 x.1 x.2.2.2.1.2.2.2.2.2
def fire_rules_4u_1u_p (x : Int × Int × Stand) : Prop := standOk x.2.2 ∧ setOk x.1 ∧ setOk x.2.1
def fire_rules_6u_1 (x : Int × Int × Stand) : Bool := coldV x.2.2 x.2.1 x.2.2.2.1.1
def fire_rules_6u_1u_p (x : Int × Int × Stand) : Prop := standOk x.2.2 ∧ setOk x.2.1
def ruleP (x : Stand × List Int) : Prop := standOk x.1 ∧ listOk x.2
def fire_rules_1 (x : Stand × List Int) : Int := firstOf (x.2.take 1) 0 fun e => coldV x.1 e.2 x.1.2.1.1
def fire_rules_1u_p (x : Stand × List Int) : Prop := ruleP x
def fire_rules_2 (x : Stand × List Int) : Int := firstOf x.2 0 fun e => coldV x.1 e.2 x.1.2.1.2.2.1
def fire_rules_2u_p (x : Stand × List Int) : Prop := ruleP x
def fire_rules_3 (x : Stand × List Int) : Int := firstOf x.2 1 fun e => slowV x.1 e.1 e.2 x.1.2.1.2.2.2.2.1
def fire_rules_3u_p (x : Stand × List Int) : Prop := ruleP x
def fire_rules_4 (x : Stand × List Int) : Int := firstOf x.2 1 fun e => slowV x.1 e.2 e.1 x.1.2.1.2.2.2.2.2
def fire_rules_4u_p (x : Stand × List Int) : Prop := ruleP x
def fire_rules_5 (x : Stand × List Int) : Int := cond (heldV x.1 x.2 0) (-1) 0
def fire_rules_5u_p (x : Stand × List Int) : Prop := ruleP x
def fire_rules_6 (x : Stand × List Int) : Int := firstOf x.2 ((x.2.length : Int) - 1) fun e => coldV x.1 e.2 x.1.2.1.1
def fire_rules_6u_p (x : Stand × List Int) : Prop := ruleP x
def fire_rules (_ : Unit) : List (Int × Fun (Stand × List Int) Int) :=
  [(1, ⟨fire_rules_1u_p, fire_rules_1⟩), (2, ⟨fire_rules_2u_p, fire_rules_2⟩), (3, ⟨fire_rules_3u_p, fire_rules_3⟩), (4, ⟨fire_rules_4u_p, fire_rules_4⟩), (5, ⟨fire_rules_5u_p, fire_rules_5⟩), (6, ⟨fire_rules_6u_p, fire_rules_6⟩)]
def fire_rules_p (_ : Unit) : Prop := True
def brkGo (x : Stand × List Int) : List (Int × Fun (Stand × List Int) Int) → Int × Int
  | [] => (0, 0)
  | r :: t => cond (decide (0 ≤ r.2.val x)) (r.1, r.2.val x) (brkGo x t)
def fire_stand_broken (x : Stand × List Int) : Int × Int := brkGo x (fire_rules ())
def fire_stand_broken_p (x : Stand × List Int) : Prop := ruleP x
def badAt (k : Kiln) (f : Fire) (l : List Int) (i : Nat) : Bool := !((fire_stand_broken ((k, f, k.1.getD i ((0, 0), 0, 0)), l)).1 == 0)
def badsFrom (k : Kiln) (f : Fire) (l : List Int) : Nat → Nat → List Int
  | 0, _ => []
  | n + 1, i => cond (badAt k f l i) ((i : Int) :: badsFrom k f l n (i + 1)) (badsFrom k f l n (i + 1))
def checkV (k : Kiln) (f : Fire) (l : List Int) : (List Int) × Int :=
  cond (!(fire_check (k, l, [f]) == 0)) ([], fire_check (k, l, [f])) (badsFrom k f l k.1.length 0, 0)
def fire_Check (x : Kiln × Fire × List Int) : (List Int) × Int := checkV x.1 x.2.1 x.2.2
def fire_Check_p (_ : Kiln × Fire × List Int) : Prop := True
def top_awake03 (_ : Unit) : Bool := true
def top_awake03u_p (_ : Unit) : Prop := True
def wr (n : Int) : Int := IntKind.wrap .u16 n
def pickV (s : Span) (i : Int) (by_ : List Int) : Int := s.1 + Int.tmod (wr (by_.getD (Int.toNat (Int.tmod i (by_.length : Int))) 0 + wr (7 * i))) (s.2 - s.1 + 1)
def top_TopFuel_1 (x : Span × Int × List Int) : Int := pickV x.1 x.2.1 x.2.2
def top_TopFuel_1u_p (x : Span × Int × List Int) : Prop := (-100000 ≤ x.1.1 ∧ x.1.1 ≤ x.1.2 ∧ x.1.2 ≤ 100000) ∧ (0 ≤ x.2.1 ∧ x.2.1 ≤ 1000000) ∧ 0 < x.2.2.length
def top_TopFuel (_ : Kiln × Fire × (List Int) × Burn × List Int) : Bool := true
def top_TopFuel_p (x : Kiln × Fire × (List Int) × Burn × List Int) : Prop :=
  (∀ b ∈ x.2.2.2.2, 0 ≤ b ∧ b ≤ 65535) ∧ x.2.2.2.2.length ≤ 140737488355328 ∧ x.1.1.length ≤ 140737488355328 ∧ x.2.2.1.length ≤ 140737488355328
end Go.Fuel
