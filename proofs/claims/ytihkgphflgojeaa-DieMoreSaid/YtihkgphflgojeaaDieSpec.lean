/-
  Chapter 4: what each function of the program gives, in plain Lean. No program in sight.
-/
import Derived.Test.YtihkgphflgojeaaDiePrel
set_option linter.all false


namespace Go.Die
open Go Go.Sx

abbrev Span := Int × Int
/-- Wide, Wear. -/
abbrev Die := Int × Int × Int
/-- Length, Wide. -/
abbrev Draw := Int × Int × Int
/-- Dies, Shrink, Change. -/
abbrev Press := (List Die) × (Int × Int) × Int
/-- Wide, Wear; shrink. -/
abbrev Mounted := (Int × Int × Int) × Int × Int
abbrev Rest := (List Int) × Int × Bool
/-- Draw, last, used. -/
abbrev State := Int × Int × List Int

def spanB (s : Span) (a b : Int) : Bool := decide (a ≤ s.1) && (decide (s.1 ≤ s.2) && decide (s.2 ≤ b))
def dieB (d : Die) : Bool := inB d.1 1 20000 && spanB d.2 0 200
def pressB (p : Press) : Bool := inB (p.1.length : Int) 1 4 && (spanB p.2.1 0 300 && (inB p.2.2 0 10000 && p.1.all dieB))
def drawB (d : Draw) : Bool := inB d.1 1 1000 && spanB d.2 0 20000
def drawsB (l : List Draw) : Bool := decide (l.length ≤ 8) && l.all drawB
def mountV (p : Press) (k : Nat) : Mounted := (p.1.getD k (0, 0, 0), p.2.1)
def thin (m : Mounted) (used : Int) : Int := (m.1.1 + m.1.2.1 * used) * (1000 - m.2.2)
def thick (m : Mounted) (used : Int) : Int := (m.1.1 + m.1.2.2 * used) * (1000 - m.2.1)
def mountOk (m : Mounted) : Prop := (1 ≤ m.1.1 ∧ m.1.1 ≤ 20000) ∧ (0 ≤ m.1.2.1 ∧ m.1.2.1 ≤ m.1.2.2 ∧ m.1.2.2 ≤ 200) ∧ (0 ≤ m.2.1 ∧ m.2.1 ≤ m.2.2 ∧ m.2.2 ≤ 300)
def usedOk (n : Int) : Prop := 0 ≤ n ∧ n ≤ 20000
def fitsV (m : Mounted) (a b : Int) (want : Span) : Bool := decide (1000 * want.1 ≤ thin m a) && decide (thick m b ≤ 1000 * want.2)
def doesV (p : Press) (k : Nat) (used : Int) (d : Draw) : Bool := fitsV (mountV p k) used (used + d.1) d.2
def wideV (p : Press) (die used : Int) : Span × Int :=
  cond (!pressB p) ((0, 0), 1) (cond (!inB die 0 ((p.1.length : Int) - 1) || !inB used 0 8000) ((0, 0), 2)
    ((Int.tdiv (thin (mountV p die.toNat) used) 1000, Int.tdiv (thick (mountV p die.toNat) used + 999) 1000), 0))
/-- Numbers from one on to another one. -/
def cmpV (a b : Int) : Int := cond (decide (a < b)) (-1) (cond (decide (b < a)) 1 0)
def numsV (a b : Int) : List Int := (List.range ((b - a).natAbs + 1)).map fun (k : Nat) => a + cmpV b a * (k : Int)
def firstV (a b : Int) (is : Int → Bool) : Int × Bool := match (numsV a b).find? is with
  | some n => (n, true)
  | none => (0, false)
def lastV (p : Press) (die : Int) (want : Span) : Int × Int × Int :=
  cond (!pressB p) (0, 0, 1) (cond (!inB die 0 ((p.1.length : Int) - 1) || !spanB want 0 20000) (0, 0, 2)
    (cond (!(firstV 0 8000 fun n => fitsV (mountV p die.toNat) n n want).2) (0, 0, 4)
      ((firstV 0 8000 fun n => fitsV (mountV p die.toNat) n n want).1, (firstV 8000 0 fun n => fitsV (mountV p die.toNat) n n want).1, 0)))
/-- Following a plan, draw by draw. -/
def followGo (p : Press) (plan : List Int) : List Draw → Nat → List Int → (List Int) × Int × Int
  | [], i, used => cond (decide (i < plan.length)) ([], (i : Int), 2) (used, (i : Int), 0)
  | d :: l, i, used =>
    cond (decide (plan.length ≤ i)) ([], (i : Int), 4)
      (cond (!inB (plan.getD i 0) 0 ((p.1.length : Int) - 1)) ([], (i : Int), 2)
        (cond (!doesV p (plan.getD i 0).toNat (used.getD (plan.getD i 0).toNat 0) d) ([], (i : Int), 11)
          (followGo p plan l (i + 1) (used.set (plan.getD i 0).toNat (used.getD (plan.getD i 0).toNat 0 + d.1)))))
def followV (p : Press) (l : List Draw) (plan : List Int) : (List Int) × Int × Int :=
  cond (!pressB p) ([], 0, 1) (cond (!drawsB l) ([], 0, 2) (followGo p plan l 0 (List.replicate p.1.length 0)))
def changeV (p : Press) (last die : Int) : Int := cond (!(last == -1) && !(last == die)) p.2.2 0
def better (p : Press) (d : Draw) (f : Int → List Int → Rest) (last : Int) (used : List Int) (best : Rest) (k : Nat) : Rest :=
  cond (doesV p k (used.getD k 0) d)
    (let r := f (k : Int) (used.set k (used.getD k 0 + d.1))
     cond (r.2.2 && (!best.2.2 || decide (r.2.1 + (k : Int) + changeV p last (k : Int) < best.2.1))) ((k : Int) :: r.1, r.2.1 + (k : Int) + changeV p last (k : Int), true) best)
    best
def bestG (p : Press) : List Draw → Int → List Int → Rest
  | [], _, _ => ([], 0, true)
  | d :: l, last, used => (List.range p.1.length).foldl (better p d (bestG p l) last used) ([], 0, false)
def bestV (p : Press) (l : List Draw) (s : State) : Rest := bestG p (l.drop s.1.toNat) s.2.1 s.2.2
def planOut (p : Press) (l : List Draw) : (List Int) × Int × Int :=
  cond (!pressB p) ([], 0, 1) (cond (!drawsB l) ([], 0, 2) (cond (!(bestG p l (-1) [0, 0, 0, 0]).2.2) ([], 0, 4) ((bestG p l (-1) [0, 0, 0, 0]).1, (bestG p l (-1) [0, 0, 0, 0]).2.1, 0)))
/-- What a plan costs. -/
def costGo (p : Press) : Int → List Int → Int
  | _, [] => 0
  | last, k :: l => k + changeV p last k + costGo p k l

/-! ### The functions -/
def law04u_span (x : Int × Int) : Span := x
def law04u_span_p (_ : Int × Int) : Prop := True
def die_within (x : Int × Int × Int) : Bool := inB x.1 x.2.1 x.2.2
def die_within_p (_ : Int × Int × Int) : Prop := True
def ref04u_in (x : Int × Int × Int) : Bool := inB x.1 x.2.1 x.2.2
def ref04u_in_p (_ : Int × Int × Int) : Prop := True
def die_isSpan (x : Span × Int × Int) : Bool := spanB x.1 x.2.1 x.2.2
def die_isSpan_p (_ : Span × Int × Int) : Prop := True
def ref04u_span (x : Span × Int × Int) : Bool := spanB x.1 x.2.1 x.2.2
def ref04u_span_p (_ : Span × Int × Int) : Prop := True
def die_isPress_1 (x : Die) : Bool := !dieB x
def die_isPress_1u_p (_ : Die) : Prop := True
def slices_IndexFunc_Lapi_Die_api_Die (x : (List Die) × Fun Die Bool) : Int := ixF x.2.val x.1 0
def slices_IndexFunc_Lapi_Die_api_Die_p (x : (List Die) × Fun Die Bool) : Prop := x.1.length ≤ big ∧ ∀ a ∈ x.1, x.2.pre a
def slices_ContainsFunc_Lapi_Die_api_Die (x : (List Die) × Fun Die Bool) : Bool := x.1.any x.2.val
def slices_ContainsFunc_Lapi_Die_api_Die_p (x : (List Die) × Fun Die Bool) : Prop := x.1.length ≤ big ∧ ∀ a ∈ x.1, x.2.pre a
def die_isPress (x : Press) : Bool := pressB x
def die_isPress_p (_ : Press) : Prop := True
def ref04u_Press (x : Press) : Bool := pressB x
def ref04u_Press_p (x : Press) : Prop := x.1.length ≤ big
def die_areDraws_1 (x : Draw) : Bool := !drawB x
def die_areDraws_1u_p (_ : Draw) : Prop := True
def slices_IndexFunc_Lapi_Draw_api_Draw (x : (List Draw) × Fun Draw Bool) : Int := ixF x.2.val x.1 0
def slices_IndexFunc_Lapi_Draw_api_Draw_p (x : (List Draw) × Fun Draw Bool) : Prop := x.1.length ≤ big ∧ ∀ a ∈ x.1, x.2.pre a
def slices_ContainsFunc_Lapi_Draw_api_Draw (x : (List Draw) × Fun Draw Bool) : Bool := x.1.any x.2.val
def slices_ContainsFunc_Lapi_Draw_api_Draw_p (x : (List Draw) × Fun Draw Bool) : Prop := x.1.length ≤ big ∧ ∀ a ∈ x.1, x.2.pre a
def die_areDraws (x : List Draw) : Bool := drawsB x
def die_areDraws_p (_ : List Draw) : Prop := True
def ref04u_Draws (x : List Draw) : Bool := drawsB x
def ref04u_Draws_p (x : List Draw) : Prop := x.length ≤ big
def die_mounted_ends_1 (x : Int × Mounted) : Int := thin x.2 x.1
def die_mounted_ends_1u_p (x : Int × Mounted) : Prop := mountOk x.2 ∧ usedOk x.1
def die_mounted_ends_2 (x : Int × Mounted) : Int := thick x.2 x.1
def die_mounted_ends_2u_p (x : Int × Mounted) : Prop := mountOk x.2 ∧ usedOk x.1
def die_mounted_ends (m : Mounted) : List (Fun Int Int) := [⟨fun n => die_mounted_ends_1u_p (n, m), fun n => die_mounted_ends_1 (n, m)⟩, ⟨fun n => die_mounted_ends_2u_p (n, m), fun n => die_mounted_ends_2 (n, m)⟩]
def die_mounted_ends_p (_ : Mounted) : Prop := True
def die_mounted_fits (x : Mounted × Int × Int × Span) : Bool := fitsV x.1 x.2.1 x.2.2.1 x.2.2.2
def die_mounted_fits_p (x : Mounted × Int × Int × Span) : Prop := mountOk x.1 ∧ usedOk x.2.1 ∧ usedOk x.2.2.1 ∧ spanB x.2.2.2 0 20000 = true
def die_mount (x : Press × Int) : Mounted := mountV x.1 x.2.toNat
def die_mount_p (x : Press × Int) : Prop := 0 ≤ x.2 ∧ x.2 < (x.1.1.length : Int)
def die_Wide (x : Press × Int × Int) : Span × Int := wideV x.1 x.2.1 x.2.2
def die_Wide_p (_ : Press × Int × Int) : Prop := True
def ref04u_Thin (x : Press × Int × Int) : Int := thin (mountV x.1 x.2.1.toNat) x.2.2
def ref04u_Thin_p (x : Press × Int × Int) : Prop := pressB x.1 = true ∧ (0 ≤ x.2.1 ∧ x.2.1 < (x.1.1.length : Int)) ∧ usedOk x.2.2
def ref04u_Thick (x : Press × Int × Int) : Int := thick (mountV x.1 x.2.1.toNat) x.2.2
def ref04u_Thick_p (x : Press × Int × Int) : Prop := pressB x.1 = true ∧ (0 ≤ x.2.1 ∧ x.2.1 < (x.1.1.length : Int)) ∧ usedOk x.2.2
def ref04u_Wide (x : Press × Int × Int) : Span × Int := wideV x.1 x.2.1 x.2.2
def ref04u_Wide_p (x : Press × Int × Int) : Prop := x.1.1.length ≤ big
def cmp_isNaN_int (_ : Int) : Bool := false
def cmp_isNaN_int_p (_ : Int) : Prop := True
def cmp_Compare_int (x : Int × Int) : Int := cmpV x.1 x.2
def cmp_Compare_int_p (_ : Int × Int) : Prop := True
def die_numbers_1 (x : Int × Int) : List Int := numsV x.2 x.1
def die_numbers_1u_p (x : Int × Int) : Prop := inB x.1 0 8000 = true ∧ inB x.2 0 8000 = true
def die_numbers (x : Int × Int) : Seq Int := ⟨die_numbers_1u_p (x.2, x.1), die_numbers_1 (x.2, x.1)⟩
def die_numbers_p (_ : Int × Int) : Prop := True
def die_first (x : Int × Int × Fun Int Bool) : Int × Bool := firstV x.1 x.2.1 x.2.2.val
def die_first_p (x : Int × Int × Fun Int Bool) : Prop := inB x.1 0 8000 = true ∧ inB x.2.1 0 8000 = true ∧ ∀ n ∈ numsV x.1 x.2.1, x.2.2.pre n
def die_Last_1 (x : Int × Mounted × Span) : Bool := fitsV x.2.1 x.1 x.1 x.2.2
def die_Last_1u_p (x : Int × Mounted × Span) : Prop := mountOk x.2.1 ∧ usedOk x.1 ∧ spanB x.2.2 0 20000 = true
def die_Last (x : Press × Int × Span) : Int × Int × Int := lastV x.1 x.2.1 x.2.2
def die_Last_p (_ : Press × Int × Span) : Prop := True
def ref04u_Last (x : Press × Int × Span) : Int × Int × Int := lastV x.1 x.2.1 x.2.2
def ref04u_Last_p (x : Press × Int × Span) : Prop := x.1.1.length ≤ big
def ref04u_Does (x : Press × Int × Int × Draw) : Bool := doesV x.1 x.2.1.toNat x.2.2.1 x.2.2.2
def ref04u_Does_p (x : Press × Int × Int × Draw) : Prop := pressB x.1 = true ∧ (0 ≤ x.2.1 ∧ x.2.1 < (x.1.1.length : Int)) ∧ (0 ≤ x.2.2.1 ∧ x.2.2.1 ≤ 10000) ∧ drawB x.2.2.2 = true
def die_Follow (x : Press × (List Draw) × List Int) : (List Int) × Int × Int := followV x.1 x.2.1 x.2.2
def die_Follow_p (_ : Press × (List Draw) × List Int) : Prop := True
def ref04u_Follow (x : Press × (List Draw) × List Int) : (List Int) × Int × Int := followV x.1 x.2.1 x.2.2
def ref04u_Follow_p (x : Press × (List Draw) × List Int) : Prop := x.1.1.length ≤ big ∧ x.2.1.length ≤ big
def ref04u_Ints (x : (List Int) × List Int) : Bool := decide (x.1 = x.2)
def ref04u_Ints_p (x : (List Int) × List Int) : Prop := x.1.length ≤ big
def slices_Clone_Lint_int (x : List Int) : List Int := x
def slices_Clone_Lint_int_p (x : List Int) : Prop := x.length ≤ big
def die_Plan_1u_1 (x : Rest) : Int := x.2.1
def die_Plan_1u_1u_p (_ : Rest) : Prop := True
def die_less_die_rest (x : Rest × Rest × Fun Rest Int) : Rest := cond (decide (x.2.2.val x.2.1 < x.2.2.val x.1)) x.2.1 x.1
def die_less_die_rest_p (x : Rest × Rest × Fun Rest Int) : Prop := x.2.2.pre x.1 ∧ x.2.2.pre x.2.1
def stOk (p : Press) (l : List Draw) (s : State) : Prop :=
  0 ≤ s.1 ∧ s.1 ≤ (l.length : Int) ∧ (-1 ≤ s.2.1 ∧ s.2.1 < (p.1.length : Int)) ∧ s.2.2.length = 4 ∧ ∀ n ∈ s.2.2, 0 ≤ n ∧ n ≤ 1000 * s.1
def die_Plan_1 (x : State × (List Draw) × Press) : Rest := bestV x.2.2 x.2.1 x.1
def die_Plan_1u_p (x : State × (List Draw) × Press) : Prop := pressB x.2.2 = true ∧ drawsB x.2.1 = true ∧ stOk x.2.2 x.2.1 x.1
def die_Plan_1u_i (x : State × (List Draw) × Press) (s : State) (r : Rest) : Prop := r = bestV x.2.2 x.2.1 s
def m41 (x : State × (List Draw) × Press) : Nat := ((x.2.1.length : Int) - x.1.1).toNat
def die_Plan_1u_q (y x : State × (List Draw) × Press) : Prop := die_Plan_1u_p x ∧ m41 x < m41 y
def die_Plan (x : Press × List Draw) : (List Int) × Int × Int := planOut x.1 x.2
def die_Plan_p (_ : Press × List Draw) : Prop := True
def sampleP : Press := ([(2000, 1, 2), (2200, 2, 3)], (90, 100), 5)
def sampleL : List Draw := [(40, 1800, 1900), (20, 1980, 2070), (30, 1830, 2000)]
def law04u_sample (_ : Unit) : Press × List Draw := (sampleP, sampleL)
def law04u_sample_p (_ : Unit) : Prop := True
def law04u_awake (_ : Unit) : Bool := true
def law04u_awake_p (_ : Unit) : Prop := True
def law04u_large (x : Press × (List Draw) × Int) : Bool := ((decide (x.2.2 < (x.2.1.length : Int)) && decide ((x.2.1.length : Int) ≤ 8)) || decide (12 < (x.2.1.length : Int))) || decide (8 < (x.1.1.length : Int))
def law04u_large_p (_ : Press × (List Draw) × Int) : Prop := True
def law04u_DieWides (_ : Press × (List Draw) × (List Int) × Int × Int × Span) : Bool := true
def law04u_DieWides_p (_ : Press × (List Draw) × (List Int) × Int × Int × Span) : Prop := True
end Go.Die
