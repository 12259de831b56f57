/-
  Chapter 13: what each function of the program gives, in plain Lean. No program in sight.
-/
import Derived.Test.YtpdnhclkelgecaaFuelPrel
set_option linter.all false


namespace Go.Fuel
open Go Go.Sx

abbrev Span := Int × Int
abbrev Feed := Int × Int
abbrev Load := Int × Int × Int
/-- Dust, Coal, Room, Price, Cart. -/
abbrev Burn := (Int × Int) × (Int × Int) × Int × Int × Int
abbrev Heat := Int × Int × Int
abbrev Rest := (List (Int × Int)) × Int × Bool

def spanB (s : Span) (a b : Int) : Bool := decide (a ≤ s.1) && (decide (s.1 ≤ s.2) && decide (s.2 ≤ b))
def burnB (b : Burn) : Bool := spanB b.1 0 1000 && (spanB b.2.1 1 1000 && (inB b.2.2.1 0 60 && (inB b.2.2.2.1 0 10000 && inB b.2.2.2.2 0 10000)))
def loadB (x : Load) : Bool := inB x.1 0 40 && spanB x.2 0 100000
def loadsB (l : List Load) : Bool := decide (l.length ≤ 8) && l.all loadB
def mayB (f : Feed) : Bool := inB f.1 0 60 && inB f.2 0 200
def gives (b : Burn) (f : Feed) : Span := (f.1 * b.1.1 + f.2 * b.2.1.1, f.1 * b.1.2 + f.2 * b.2.1.2)
def doesB (b : Burn) (f : Feed) (need : Span) : Bool := decide (need.1 ≤ (gives b f).1) && decide ((gives b f).2 ≤ need.2)
def downV (n d : Int) : Int := n / d
def upV (n d : Int) : Int := -((-n) / d)
def coalS (b : Burn) (need : Span) (dust : Int) : Span := (max 0 (upV (need.1 - dust * b.1.1) b.2.1.1), min 200 (downV (need.2 - dust * b.1.2) b.2.1.2))
def coalB (b : Burn) (need : Span) (dust : Int) : Bool := decide ((coalS b need dust).1 ≤ (coalS b need dust).2)
def heatV (b : Burn) (f : Feed) : Span × Int := cond (!burnB b) ((0, 0), 1) (cond (!mayB f) ((0, 0), 2) (gives b f, 0))
def coalV (b : Burn) (need : Span) (dust : Int) : Span × Int :=
  cond (!burnB b) ((0, 0), 1) (cond (!spanB need 0 100000 || !inB dust 0 60) ((0, 0), 2) (cond (!coalB b need dust) ((0, 0), 4) (coalS b need dust, 0)))
def haveV (b : Burn) (left made : Int) : Int := min b.2.2.1 (left + made)
def cartV (b : Burn) (left made : Int) : Int := b.2.2.2.2 * (left + made - haveV b left made)
/-- Following a plan, firing by firing. -/
def followGo (b : Burn) (plan : List Feed) : List Load → Nat → Int → Int → List Int → (List Int) × Int × Int × Int
  | [], i, _, cost, left => cond (decide (i < plan.length)) ([], 0, (i : Int), 2) (left, cost, (i : Int), 0)
  | x :: l, i, have_, cost, left =>
    cond (decide (plan.length ≤ i)) ([], 0, (i : Int), 4)
      (cond (!mayB (plan.getD i (0, 0))) ([], 0, (i : Int), 2)
        (cond (decide (haveV b have_ x.1 < (plan.getD i (0, 0)).1)) ([], 0, (i : Int), 10)
          (cond (!doesB b (plan.getD i (0, 0)) x.2) ([], 0, (i : Int), 11)
            (followGo b plan l (i + 1) (haveV b have_ x.1 - (plan.getD i (0, 0)).1) (cost + (cartV b have_ x.1 + b.2.2.2.1 * (plan.getD i (0, 0)).2)) (left ++ [haveV b have_ x.1 - (plan.getD i (0, 0)).1])))))
def followV (b : Burn) (l : List Load) (plan : List Feed) : (List Int) × Int × Int × Int :=
  cond (!burnB b) ([], 0, 0, 1) (cond (!loadsB l) ([], 0, 0, 2) (followGo b plan l 0 0 0 []))
/-- The feeds that do, for each number of sacks of dust. -/
def feedsAt (b : Burn) (need : Span) (d : Nat) : List Feed := cond (coalB b need (d : Int)) [((d : Int), (coalS b need (d : Int)).1)] []
def feedsV (b : Burn) (need : Span) (have_ : Int) : List Feed := (List.range (have_ + 1).toNat).flatMap (feedsAt b need)
def better (b : Burn) (f : Int → Rest) (have_ cart : Int) (best : Rest) (e : Feed) : Rest :=
  let r := f (have_ - e.1)
  cond (r.2.2 && (!best.2.2 || decide (r.2.1 + cart + b.2.2.2.1 * e.2 < best.2.1))) (e :: r.1, r.2.1 + cart + b.2.2.2.1 * e.2, true) best
def bestG (b : Burn) : List Load → Int → Rest
  | [], _ => ([], 0, true)
  | x :: l, left => (feedsV b x.2 (haveV b left x.1)).foldl (better b (bestG b l) (haveV b left x.1) (cartV b left x.1)) ([], 0, false)
def bestV (b : Burn) (l : List Load) (at_ : List Int) : Rest := bestG b (l.drop (at_.getD 0 0).toNat) (at_.getD 1 0)
def bestOut (b : Burn) (l : List Load) : (List Feed) × Int × Int :=
  cond (!burnB b) ([], 0, 1) (cond (!loadsB l) ([], 0, 2) (cond (!(bestG b l 0).2.2) ([], 0, 4) ((bestG b l 0).1, (bestG b l 0).2.1, 0)))

/-! ### The functions -/
def dust_within (x : Int × Int × Int) : Bool := inB x.1 x.2.1 x.2.2
def dust_within_p (_ : Int × Int × Int) : Prop := True
def ref13u_in (x : Int × Int × Int) : Bool := inB x.1 x.2.1 x.2.2
def ref13u_in_p (_ : Int × Int × Int) : Prop := True
def dust_isSpan (x : Span × Int × Int) : Bool := spanB x.1 x.2.1 x.2.2
def dust_isSpan_p (_ : Span × Int × Int) : Prop := True
def ref13u_span (x : Span × Int × Int) : Bool := spanB x.1 x.2.1 x.2.2
def ref13u_span_p (_ : Span × Int × Int) : Prop := True
def dust_isBurn (x : Burn) : Bool := burnB x
def dust_isBurn_p (_ : Burn) : Prop := True
def ref13u_Burn (x : Burn) : Bool := burnB x
def ref13u_Burn_p (_ : Burn) : Prop := True
def dust_isFeed (x : Feed) : Bool := mayB x
def dust_isFeed_p (_ : Feed) : Prop := True
def ref13u_May (x : Feed) : Bool := mayB x
def ref13u_May_p (_ : Feed) : Prop := True
def dust_areLoads_1 (x : Load) : Bool := !loadB x
def dust_areLoads_1u_p (_ : Load) : Prop := True
def slices_IndexFunc_Lapi_Load_api_Load (x : (List Load) × Fun Load Bool) : Int := ixF x.2.val x.1 0
def slices_IndexFunc_Lapi_Load_api_Load_p (x : (List Load) × Fun Load Bool) : Prop := x.1.length ≤ big ∧ ∀ a ∈ x.1, x.2.pre a
def slices_ContainsFunc_Lapi_Load_api_Load (x : (List Load) × Fun Load Bool) : Bool := x.1.any x.2.val
def slices_ContainsFunc_Lapi_Load_api_Load_p (x : (List Load) × Fun Load Bool) : Prop := x.1.length ≤ big ∧ ∀ a ∈ x.1, x.2.pre a
def dust_areLoads (x : List Load) : Bool := loadsB x
def dust_areLoads_p (_ : List Load) : Prop := True
/-- What sacks give together. -/
def sumV (l : List (Int × Int × Int)) (s : Span) : Span := l.foldl (fun s h => (s.1 + h.1 * h.2.1, s.2 + h.1 * h.2.2)) s
def dust_sum (x : List (Int × Int × Int)) : Span := sumV x (0, 0)
def dust_sum_p (x : List (Int × Int × Int)) : Prop := x.length ≤ 2 ∧ ∀ h ∈ x, inB h.1 0 1000 = true ∧ inB h.2.1 0 1000 = true ∧ inB h.2.2 0 1000 = true
def dust_kiln_gives (x : Burn × Feed) : Span := gives x.1 x.2
def dust_kiln_gives_p (x : Burn × Feed) : Prop := burnB x.1 = true ∧ mayB x.2 = true
def dust_down_int (x : Int × Int) : Int := downV x.1 x.2
def dust_down_int_p (x : Int × Int) : Prop := inB x.1 (-1000000000) 1000000000 = true ∧ 0 < x.2 ∧ x.2 ≤ 1000000000
def dust_up_int (x : Int × Int) : Int := upV x.1 x.2
def dust_up_int_p (x : Int × Int) : Prop := inB x.1 (-1000000000) 1000000000 = true ∧ 0 < x.2 ∧ x.2 ≤ 1000000000
def dust_kiln_coal (x : Burn × Span × Int) : Span × Bool := (coalS x.1 x.2.1 x.2.2, coalB x.1 x.2.1 x.2.2)
def dust_kiln_coal_p (x : Burn × Span × Int) : Prop := burnB x.1 = true ∧ spanB x.2.1 0 100000 = true ∧ inB x.2.2 0 60 = true
def dust_Heat (x : Burn × Feed) : Span × Int := heatV x.1 x.2
def dust_Heat_p (_ : Burn × Feed) : Prop := True
def dust_kiln_stored (x : Burn × Int × Int) : Int × Int := (haveV x.1 x.2.1 x.2.2, cartV x.1 x.2.1 x.2.2)
def dust_kiln_stored_p (x : Burn × Int × Int) : Prop := burnB x.1 = true ∧ inB x.2.1 0 60 = true ∧ inB x.2.2 0 40 = true
def slices_Clone_Lapi_Feed_api_Feed (x : List Feed) : List Feed := x
def slices_Clone_Lapi_Feed_api_Feed_p (x : List Feed) : Prop := x.length ≤ big
def dust_kiln_feeds_1 (x : Int × Burn × Span) : List Feed := feedsV x.2.1 x.2.2 x.1
def dust_kiln_feeds_1u_p (x : Int × Burn × Span) : Prop := burnB x.2.1 = true ∧ spanB x.2.2 0 100000 = true ∧ inB x.1 0 60 = true
def dust_kiln_feeds (x : Burn × Span × Int) : Seq Feed := ⟨dust_kiln_feeds_1u_p (x.2.2, x.1, x.2.1), dust_kiln_feeds_1 (x.2.2, x.1, x.2.1)⟩
def dust_kiln_feeds_p (_ : Burn × Span × Int) : Prop := True
def dust_Best_1 (x : (List Int) × (List Load) × Burn) : Rest × Burn := (bestV x.2.2 x.2.1 x.1, x.2.2)
def dust_Best_1u_p (x : (List Int) × (List Load) × Burn) : Prop :=
  burnB x.2.2 = true ∧ loadsB x.2.1 = true ∧ x.1.length = 2 ∧ 0 ≤ x.1.getD 0 0 ∧ x.1.getD 0 0 ≤ (x.2.1.length : Int) ∧ 0 ≤ x.1.getD 1 0 ∧ x.1.getD 1 0 ≤ 60
def dust_Best_1u_i (x : (List Int) × (List Load) × Burn) (s : List Int) (r : Rest) : Prop := r = bestV x.2.2 x.2.1 s
def m21 (x : (List Int) × (List Load) × Burn) : Nat := ((x.2.1.length : Int) - x.1.getD 0 0).toNat
def dust_Best_1u_q (y x : (List Int) × (List Load) × Burn) : Prop := dust_Best_1u_p x ∧ m21 x < m21 y
def dust_Best (x : Burn × List Load) : (List Feed) × Int × Int := bestOut x.1 x.2
def dust_Best_p (_ : Burn × List Load) : Prop := True
end Go.Fuel
