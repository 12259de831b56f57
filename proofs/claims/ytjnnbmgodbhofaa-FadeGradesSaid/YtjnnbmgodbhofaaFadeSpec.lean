/-
  Chapter 12: what each function of the program gives, in plain Lean. No program in sight.
-/
import Derived.Test.YtjnnbmgodbhofaaFadePrel
set_option linter.all false
set_option maxRecDepth 100000
namespace Go.Fade
open Go Go.Sx
abbrev Span := Int × Int
abbrev Check := Int × Int × Int × Bool
abbrev Fading := (List Span) × (List Span) × Int × List Check
abbrev Rule := Int × Int × Int
abbrev Bds := List (List Int)
abbrev free : Int := 1099511627776
abbrev z27 : List Int := List.replicate 27 0
def gt (b : Bds) (i k : Nat) : Int := (b.getD i z27).getD k 0
def table (f : Nat → Nat → Int) : Bds := (List.range 27).map fun i => (List.range 27).map (f i)
def newAt (b : Bds) (a c : Nat) (w : Int) (i k : Nat) : Int := cond (decide (gt b i a < free) && decide (gt b c k < free)) (min (gt b i k) (gt b i a + w + gt b c k)) (gt b i k)
def okR (b : Bds) (r : Rule) : Bool := !decide (gt b r.2.1.toNat r.1.toNat + r.2.2 < 0)
def putR (b : Bds) (r : Rule) : Bds := cond (decide (gt b r.1.toNat r.2.1.toNat ≤ r.2.2)) b (table (newAt b r.1.toNat r.2.1.toNat r.2.2))
def enterL : Bds → List Rule → Option Bds
 | b, [] => some b
 | b, r :: l => cond (okR b r) (enterL (putR b r) l) none
structure Small (b : Bds) : Prop where
 len : b.length = 27
 row : ∀ i, i < 27 → (b.getD i z27).length = 27
 low : ∀ i k, i < 27 → k < 27 → -2199023255552 ≤ gt b i k
 high : ∀ i k, i < 27 → k < 27 → gt b i k ≤ 2199023255552
def RuleOk (r : Rule) : Prop := (0 ≤ r.1 ∧ r.1 < 27) ∧ (0 ≤ r.2.1 ∧ r.2.1 < 27) ∧ -2199023255552 ≤ r.2.2 ∧ r.2.2 ≤ 2199023255552
def enterP : Bds → List Rule → Prop
 | _, [] => True
 | b, r :: l => Small b ∧ RuleOk r ∧ (okR b r = true → enterP (putR b r) l)
def noBounds : Bds := table fun i k => cond (Nat.beq i k) 0 free
def spanB (s : Span) (a b : Int) : Bool := (decide (a ≤ s.1) && decide (s.1 ≤ s.2)) && decide (s.2 ≤ b)
def less1 (a : Int) : Int := IntKind.wrap .i64 (a - 1)
def thingB (f : Fading) (what index : Int) : Bool := cond (what == 0) (inB index 0 ((f.2.1.length : Int) - 1)) (cond (what == 1) (inB index 0 (less1 f.2.2.1)) false)
def checkB (f : Fading) (c : Check) : Bool := inB c.1 0 (f.1.length : Int) && thingB f c.2.1 c.2.2.1
def sizesB (f : Fading) : Bool := ((decide ((f.1.length : Int) ≤ 12) && decide ((f.2.1.length : Int) ≤ 8)) && inB f.2.2.1 0 6) && decide ((f.2.2.2.length : Int) ≤ 40)
def cardsB (f : Fading) : Bool := ((sizesB f && f.1.all (fun s => spanB s 0 1000000)) && f.2.1.all (fun s => spanB s 1 16777216)) && f.2.2.2.all (checkB f)
def plusV (p n : Int) : Int := cond (p == 14) (p + 8 - 1 + n) (p + n)
def ofV (what index : Int) : Int := cond (what == 1) (21 + index) (13 + index)
def ruleOf (c : Check) : Rule := cond c.2.2.2 (ofV c.2.1 c.2.2.1, c.1, 0) (c.1, ofV c.2.1 c.2.2.1, -1)
def monthsL : List Span → Int → List Rule
 | [], _ => []
 | s :: l, i => (i + 1, i, s.2) :: (i, i + 1, -s.1) :: monthsL l (i + 1)
def refsL : List Span → Int → List Rule
 | [], _ => []
 | s :: l, k => (13 + k, 0, s.2) :: (0, 13 + k, -s.1) :: (cond (decide (0 < k)) [(13 + (k - 1), 13 + k, -1)] [] ++ refsL l (k + 1))
def samplesL : Nat → Int → List Rule
 | 0, _ => []
 | n + 1, k => (21 + k, 0, 16777216) :: (0, 21 + k, -1) :: samplesL n (k + 1)
def riseL (f : Fading) : List Rule := monthsL f.1 0 ++ (refsL f.2.1 0 ++ samplesL f.2.2.1.toNat 0)
def checksL (f : Fading) : List Rule := f.2.2.2.map ruleOf
def allL (f : Fading) : List Rule := riseL f ++ checksL f
def openV (f : Fading) (valid : Bool) : (Option Bds) × Int :=
 cond (!cardsB f) (none, 1) (cond (!valid) (none, 2) (match enterL noBounds (allL f) with
  | none => (none, 6)
  | some b => (some b, 0)))
def sizeP (f : Fading) : Prop := f.1.length ≤ big ∧ f.2.1.length ≤ big ∧ f.2.2.2.length ≤ big
def aboveV (b : Option Bds) (p o : Int) : Int := gt (b.getD []) p.toNat o.toNat
def aboveP (b : Option Bds) (p o : Int) : Prop := b.isSome = true ∧ (0 ≤ p ∧ p < 27) ∧ (0 ≤ o ∧ o < 27)
def spanV (b : Option Bds) (p : Int) : Span := (-(aboveV b 0 p), aboveV b p 0)
def lightV (f : Fading) (month : Int) : Span × Int :=
 let r := openV f (inB month 0 (f.1.length : Int))
 cond (!(r.2 == 0)) ((0, 0), r.2) (spanV r.1 month, 0)
def fastV (f : Fading) (what index : Int) : Span × Int :=
 let r := openV f (thingB f what index)
 cond (!(r.2 == 0)) ((0, 0), r.2) (spanV r.1 (ofV what index), 0)
def gradeGo (b : Option Bds) (own : Int) : Nat → Int → Span → Span
 | 0, _, s => s
 | n + 1, k, s => gradeGo b own n (k + 1) (s.1 + cond (decide (aboveV b (13 + k) own ≤ 0)) 1 0, s.2 + cond (decide (0 ≤ aboveV b own (13 + k))) 1 0)
def gradeV (f : Fading) (index : Int) : Span × Int :=
 let r := openV f (inB index 0 (less1 f.2.2.1))
 cond (!(r.2 == 0)) ((0, 0), r.2) (gradeGo r.1 (21 + index) f.2.1.length 0 (0, 0), 0)
def clashGo : Bds → List Rule → Int → Int × Int
 | _, [], _ => (0, 4)
 | b, r :: l, i => cond (okR b r) (clashGo (putR b r) l (i + 1)) (i, 0)
def clashV (f : Fading) : Int × Int :=
 cond (!cardsB f) (0, 1) (match enterL noBounds (riseL f) with
  | none => (0, 6)
  | some b => clashGo b (checksL f) 0)
def untilV (f : Fading) (index : Int) (more : Span) : Int × Int :=
 let r := openV f (thingB f 0 index && spanB more 0 1000000)
 cond (!(r.2 == 0)) (0, r.2) (
  let left := aboveV r.1 (13 + index) (f.1.length : Int)
  cond (decide (left ≤ 0)) (0, 0) (cond (more.1 == 0) (0, 4) ((left + more.1 - 1).tdiv more.1, 0)))
def numb {α : Type} : List α → Int → List (Int × α)
 | [], _ => []
 | a :: l, i => (i, a) :: numb l (i + 1)
def fade_within (x : Int × Int × Int) : Bool := inB x.1 x.2.1 x.2.2
def fade_within_p (_ : Int × Int × Int) : Prop := True
def fade_isSpan (x : Span × Int × Int) : Bool := spanB x.1 x.2.1 x.2.2
def fade_isSpan_p (_ : Span × Int × Int) : Prop := True
def fade_isThing (x : Fading × Int × Int) : Bool := thingB x.1 x.2.1 x.2.2
def fade_isThing_p (x : Fading × Int × Int) : Prop := x.1.2.1.length ≤ big
def fade_point_plus (x : Int × Int) : Int := plusV x.1 x.2
def fade_point_plus_p (x : Int × Int) : Prop := (x.1 = 13 ∨ x.1 = 14) ∧ 0 ≤ x.2 ∧ x.2 ≤ 100
def fade_of (x : Int × Int) : Int := ofV x.1 x.2
def fade_of_p (x : Int × Int) : Prop := (0 ≤ x.1 ∧ x.1 < 2) ∧ 0 ≤ x.2 ∧ x.2 ≤ 100
def fade_isCards (x : Fading) : Bool := cardsB x
def fade_isCards_p (x : Fading) : Prop := sizeP x
def fade_isCards_1 (x : Span) : Bool := !spanB x 0 1000000
def fade_isCards_1u_p (_ : Span) : Prop := True
def fade_isCards_2 (x : Span) : Bool := !spanB x 1 16777216
def fade_isCards_2u_p (_ : Span) : Prop := True
def fade_isCards_3 (x : Check × Fading) : Bool := !checkB x.2 x.1
def fade_isCards_3u_p (x : Check × Fading) : Prop := x.2.2.1.length ≤ big
def slices_ContainsFunc_Lapi_Span_api_Span (x : (List Span) × Fun Span Bool) : Bool := x.1.any x.2.val
def slices_ContainsFunc_Lapi_Span_api_Span_p (x : (List Span) × Fun Span Bool) : Prop := x.1.length ≤ big ∧ ∀ a ∈ x.1, x.2.pre a
def slices_ContainsFunc_Lapi_Check_api_Check (x : (List Check) × Fun Check Bool) : Bool := x.1.any x.2.val
def slices_ContainsFunc_Lapi_Check_api_Check_p (x : (List Check) × Fun Check Bool) : Prop := x.1.length ≤ big ∧ ∀ a ∈ x.1, x.2.pre a
def slices_IndexFunc_Lapi_Span_api_Span (x : (List Span) × Fun Span Bool) : Int := ixF x.2.val x.1 0
def slices_IndexFunc_Lapi_Span_api_Span_p (x : (List Span) × Fun Span Bool) : Prop := x.1.length ≤ big ∧ ∀ a ∈ x.1, x.2.pre a
def slices_IndexFunc_Lapi_Check_api_Check (x : (List Check) × Fun Check Bool) : Int := ixF x.2.val x.1 0
def slices_IndexFunc_Lapi_Check_api_Check_p (x : (List Check) × Fun Check Bool) : Prop := x.1.length ≤ big ∧ ∀ a ∈ x.1, x.2.pre a
def fade_bounds_above (x : (Option Bds) × Int × Int) : Int := aboveV x.1 x.2.1 x.2.2
def fade_bounds_above_p (x : (Option Bds) × Int × Int) : Prop := aboveP x.1 x.2.1 x.2.2
def fade_spanOf_fade_point (x : (Fun (Int × Int) Int) × Int × Int) : Span := (-(x.1.val (x.2.2, x.2.1)), x.1.val (x.2.1, x.2.2))
def fade_spanOf_fade_point_p (x : (Fun (Int × Int) Int) × Int × Int) : Prop := x.1.pre (x.2.2, x.2.1) ∧ x.1.pre (x.2.1, x.2.2) ∧ Z.in64 (-(x.1.val (x.2.2, x.2.1)))
def fade_meanings_1 (x : Int × Int) : Rule := (x.1, x.2, 0)
def fade_meanings_1u_p (_ : Int × Int) : Prop := True
def fade_meanings_2 (x : Int × Int) : Rule := (x.2, x.1, -1)
def fade_meanings_2u_p (_ : Int × Int) : Prop := True
def fade_meanings (_ : Unit) : Bool → Option (Fun (Int × Int) Rule) := fun k => cond k (some ⟨fade_meanings_1u_p, fade_meanings_1⟩) (some ⟨fade_meanings_2u_p, fade_meanings_2⟩)
def fade_meanings_p (_ : Unit) : Prop := True
def fade_newBounds (_ : Unit) : Bds := noBounds
def fade_newBounds_p (_ : Unit) : Prop := True
def fade_bounds_enter (x : Bds × List Rule) : Bds := (enterL x.1 x.2).getD []
def fade_bounds_enter_ok (x : Bds × List Rule) : Bool := (enterL x.1 x.2).isSome
def fade_bounds_enter_p (x : Bds × List Rule) : Prop := x.2.length ≤ 10 ∧ enterP x.1 x.2
def fade_bounds_rise (x : Bds × Fading) : Bds := (enterL x.1 (riseL x.2)).getD []
def fade_bounds_rise_ok (x : Bds × Fading) : Bool := (enterL x.1 (riseL x.2)).isSome
def fade_bounds_rise_p (x : Bds × Fading) : Prop := x.1 = noBounds ∧ cardsB x.2 = true
def fade_checks (x : Fading) : Seq (Int × Rule) := ⟨cardsB x = true, numb (checksL x) 0⟩
def fade_checks_p (x : Fading) : Prop := cardsB x = true
def fade_checks_1 (x : Fading) : List (Int × Rule) := numb (checksL x) 0
def fade_checks_1u_p (x : Fading) : Prop := cardsB x = true
def fade_open_1 (x : Bds × Fading) : Bds := (enterL x.1 (allL x.2)).getD []
def fade_open_1u_ok (x : Bds × Fading) : Bool := (enterL x.1 (allL x.2)).isSome
def fade_open_1u_p (x : Bds × Fading) : Prop := x.1 = noBounds ∧ cardsB x.2 = true
def fade_Clash_1 (x : Bds × Fading) : Bds := (enterL x.1 (riseL x.2)).getD []
def fade_Clash_1u_ok (x : Bds × Fading) : Bool := (enterL x.1 (riseL x.2)).isSome
def fade_Clash_1u_p (x : Bds × Fading) : Prop := x.1 = noBounds ∧ cardsB x.2 = true
def fade_Clash_2 (x : Bds × Rule) : Bds × Rule := ((enterL x.1 [x.2]).getD [], x.2)
def fade_Clash_2u_ok (x : Bds × Rule) : Bool := (enterL x.1 [x.2]).isSome
def fade_Clash_2u_p (x : Bds × Rule) : Prop := enterP x.1 [x.2]
def fade_open (x : Fading × Bool) : (Option Bds) × Int := openV x.1 x.2
def fade_open_p (x : Fading × Bool) : Prop := sizeP x.1
def fade_Light (x : Fading × Int) : Span × Int := lightV x.1 x.2
def fade_Light_p (x : Fading × Int) : Prop := sizeP x.1
def fade_Fast (x : Fading × Int × Int) : Span × Int := fastV x.1 x.2.1 x.2.2
def fade_Fast_p (x : Fading × Int × Int) : Prop := sizeP x.1
def fade_Grade (x : Fading × Int) : Span × Int := gradeV x.1 x.2
def fade_Grade_p (x : Fading × Int) : Prop := sizeP x.1
def fade_Clash (x : Fading) : Int × Int := clashV x
def fade_Clash_p (x : Fading) : Prop := sizeP x
def fade_Until (x : Fading × Int × Span) : Int × Int := untilV x.1 x.2.1 x.2.2
def fade_Until_p (x : Fading × Int × Span) : Prop := sizeP x.1
def law12u_span (x : Int × Int) : Span := x
def law12u_span_p (_ : Int × Int) : Prop := True
def law12u_sample (x : List Check) : Fading :=
 ([(100, 120), (80, 100), (90, 110)], [(60, 80), (150, 170), (260, 300)], 2, [(1, 0, 0, true), (1, 0, 1, false), (1, 1, 0, false), (2, 0, 1, true), (2, 1, 0, true), (2, 1, 1, false), (3, 0, 2, false)] ++ x)
def law12u_sample_p (x : List Check) : Prop := x.length ≤ 100
def greatB (f : Fading) : Bool := (decide ((18 : Int) < (f.1.length : Int)) || decide ((14 : Int) < (f.2.1.length : Int))) || decide ((50 : Int) < (f.2.2.2.length : Int))
def law12u_great (x : Fading) : Bool := greatB x
def law12u_great_p (_ : Fading) : Prop := True
def law12u_alive (_ : Unit) : Bool := true
def law12u_alive_p (_ : Unit) : Prop := True
def law12u_FadeNames (_ : Unit) : Bool := true
def law12u_FadeNames_p (_ : Unit) : Prop := True
def law12u_FadeClash (_ : Fading × Int) : Bool := true
def law12u_FadeClash_p (x : Fading × Int) : Prop := 0 ≤ x.2 ∧ x.2 ≤ 255
def law12u_FadeEnds (_ : Fading × Int × Int × Int) : Bool := true
def law12u_FadeEnds_p (_ : Fading × Int × Int × Int) : Prop := True
def ref12u_in (x : Int × Int × Int) : Bool := inB x.1 x.2.1 x.2.2
def ref12u_in_p (_ : Int × Int × Int) : Prop := True
def ref12u_span (x : Span × Int × Int) : Bool := spanB x.1 x.2.1 x.2.2
def ref12u_span_p (_ : Span × Int × Int) : Prop := True
def ref12u_Thing (x : Fading × Int × Int) : Bool := thingB x.1 x.2.1 x.2.2
def ref12u_Thing_p (x : Fading × Int × Int) : Prop := x.1.2.1.length ≤ big
def ref12u_Cards (x : Fading) : Bool := cardsB x
def ref12u_Cards_p (x : Fading) : Prop := sizeP x
end Go.Fade
