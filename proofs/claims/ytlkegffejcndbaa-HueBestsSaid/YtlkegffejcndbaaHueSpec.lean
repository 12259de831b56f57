/-
  Chapter 8: what each function of the program gives, in plain Lean. No program in sight.
-/
import Derived.Test.YtlkegffejcndbaaSH
set_option linter.all false


namespace Go.Hue
open Go Go.Sx

abbrev I : Ty := .i .i64
abbrev Span := Int × Int
abbrev Turn := Int × Int
abbrev Hue := (Int × Int) × Int × Int
abbrev Mill := (Int × Int) × (Int × Int) × Int
abbrev State := Int × Int
abbrev Rest := (List (Int × Int)) × Int × Bool
abbrev End := (Fun Hue Int) × (Fun Span Int) × Fun Span Int
/-- Lists are not longer than this where it matters. -/
abbrev big : Nat := 1000000

def inB (n a b : Int) : Bool := decide (a ≤ n) && decide (n ≤ b)
def spanB (s : Span) : Bool := inB s.2 0 10000 && inB s.1 0 s.2
def hueB (h : Hue) : Bool := spanB h.1 && spanB h.2
def validB (m : Mill) (l : List Hue) : Bool := decide (l.length ≤ 6) && (spanB m.1 && (spanB m.2.1 && (inB m.2.2 0 10000 && l.all hueB)))
def turnB (l : List Hue) (t : Turn) : Bool := inB t.1 0 ((l.length : Int) - 1) && inB t.2 0 2
def planB (l : List Hue) (plan : List Turn) : Bool := decide (plan.length ≤ 12) && plan.all (turnB l)

/-- The first place of a list at which something is true; -1 if there is none. -/
def ixF {α : Type} (p : α → Bool) : List α → Int → Int
  | [], _ => -1
  | a :: l, i => cond (p a) i (ixF p l (i + 1))
/-- Washes of k turns behind the turn a. -/
def wsum (plan : List Turn) : Nat → Nat → Int
  | _, 0 => 0
  | a, k + 1 => (plan.getD (a + 1) (0, 0)).2 + wsum plan (a + 1) k
def hueAt (l : List Hue) (plan : List Turn) (i : Nat) : Hue := l.getD (plan.getD i (0, 0)).1.toNat ((0, 0), 0, 0)
/-- The stain of turn i in turn 'at', by what a colour, a run and a wash are worth. -/
def stv (d : Hue → Int) (r w : Int) (l : List Hue) (plan : List Turn) (i at_ : Nat) : Int :=
  d (hueAt l plan i) - (w * wsum plan i (at_ - i) + r * ((at_ : Int) - 1 - i))
def dLo (h : Hue) : Int := h.1.1
def dHi (h : Hue) : Int := h.1.2
def stLo (m : Mill) (l : List Hue) (plan : List Turn) (i at_ : Nat) : Int := stv dLo m.1.2 m.2.1.2 l plan i at_
def stHi (m : Mill) (l : List Hue) (plan : List Turn) (i at_ : Nat) : Int := stv dHi m.1.1 m.2.1.1 l plan i at_
def great (l : List Int) (a : Int) : Int := l.foldl (fun x y => max x y) a
def inS (m : Mill) (l : List Hue) (plan : List Turn) (at_ : Nat) : Span :=
  (great ((List.range at_).map fun i => stLo m l plan i at_) 0, great ((List.range at_).map fun i => stHi m l plan i at_) 0)
/-- Which stain shows in a turn; -1 if none does. -/
def showAt (m : Mill) (l : List Hue) (plan : List Turn) (i : Nat) : Int :=
  ixF (fun n => decide ((hueAt l plan i).2.1 < n)) ((List.range i).map fun k => stHi m l plan k i) 0
def showGo (m : Mill) (l : List Hue) (plan : List Turn) : Nat → Nat → Int × Int × Int
  | 0, _ => (0, 0, 4)
  | k + 1, i => cond (decide (0 ≤ showAt m l plan i)) ((i : Int), showAt m l plan i, 0) (showGo m l plan k (i + 1))

/-- What may come next. -/
def nextsAt (s : State) (m : Mill) (h : Nat) : List (Turn × Int) :=
  cond (s.1.toNat.testBit h) ([0, 1, 2].map fun (w : Int) => (((h : Int), w), max 0 (s.2 - w * m.2.1.1))) []
def nexts (s : State) (m : Mill) : List (Turn × Int) := (List.range 6).flatMap (nextsAt s m)
def pop (n : Nat) : Nat := (List.range 6).countP fun h => n.testBit h
def better (f : State → Rest) (m : Mill) (l : List Hue) (s : State) (best : Rest) (e : Turn × Int) : Rest :=
  let h := l.getD e.1.1.toNat ((0, 0), 0, 0)
  cond (decide (h.2.1 < e.2)) best
    (let r := f (((s.1.toNat ^^^ (s.1.toNat &&& (1 * 2 ^ e.1.1.toNat : Int).toNat) : Nat) : Int), max h.1.2 (e.2 - m.1.1))
     let c := r.2.1 + e.2 + m.2.2 * e.1.2
     cond (r.2.2 && (!best.2.2 || decide (c < best.2.1))) (e.1 :: r.1, c, r.2.2) best)
def bestF (m : Mill) (l : List Hue) : Nat → State → Rest
  | 0, _ => ([], 0, true)
  | n + 1, s => (nexts s m).foldl (better (bestF m l n) m l s) ([], 0, false)
def bestV (m : Mill) (l : List Hue) (s : State) : Rest := bestF m l (pop s.1.toNat) s
def stateOk (l : List Hue) (s : State) : Prop := 0 ≤ s.1 ∧ s.1 < 2 ^ l.length ∧ 0 ≤ s.2 ∧ s.2 ≤ 10000

/-! ### The functions -/
def hue_within (x : Int × Int × Int) : Bool := inB x.1 x.2.1 x.2.2
def hue_within_p (_ : Int × Int × Int) : Prop := True
def ref08u_in (x : Int × Int × Int) : Bool := inB x.1 x.2.1 x.2.2
def ref08u_in_p (_ : Int × Int × Int) : Prop := True
def hue_isSpan (x : Span) : Bool := spanB x
def hue_isSpan_p (_ : Span) : Prop := True
def ref08u_span (x : Span) : Bool := spanB x
def ref08u_span_p (_ : Span) : Prop := True
def hue_isValid_1 (x : Hue) : Bool := !hueB x
def hue_isValid_1u_p (_ : Hue) : Prop := True
def slices_IndexFunc_Lapi_Hue_api_Hue (x : (List Hue) × Fun Hue Bool) : Int := ixF x.2.val x.1 0
def slices_IndexFunc_Lapi_Hue_api_Hue_p (x : (List Hue) × Fun Hue Bool) : Prop := x.1.length ≤ big ∧ ∀ a ∈ x.1, x.2.pre a
def slices_ContainsFunc_Lapi_Hue_api_Hue (x : (List Hue) × Fun Hue Bool) : Bool := x.1.any x.2.val
def slices_ContainsFunc_Lapi_Hue_api_Hue_p (x : (List Hue) × Fun Hue Bool) : Prop := x.1.length ≤ big ∧ ∀ a ∈ x.1, x.2.pre a
def hue_isValid (x : Mill × List Hue) : Bool := validB x.1 x.2
def hue_isValid_p (_ : Mill × List Hue) : Prop := True
def ref08u_Valid (x : Mill × List Hue) : Bool := validB x.1 x.2
def ref08u_Valid_p (x : Mill × List Hue) : Prop := x.2.length ≤ big
def hue_isPlan_1 (x : Turn × List Hue) : Bool := !turnB x.2 x.1
def hue_isPlan_1u_p (x : Turn × List Hue) : Prop := x.2.length ≤ big
def slices_IndexFunc_Lapi_Turn_api_Turn (x : (List Turn) × Fun Turn Bool) : Int := ixF x.2.val x.1 0
def slices_IndexFunc_Lapi_Turn_api_Turn_p (x : (List Turn) × Fun Turn Bool) : Prop := x.1.length ≤ big ∧ ∀ a ∈ x.1, x.2.pre a
def slices_ContainsFunc_Lapi_Turn_api_Turn (x : (List Turn) × Fun Turn Bool) : Bool := x.1.any x.2.val
def slices_ContainsFunc_Lapi_Turn_api_Turn_p (x : (List Turn) × Fun Turn Bool) : Prop := x.1.length ≤ big ∧ ∀ a ∈ x.1, x.2.pre a
def hue_isPlan (x : (List Hue) × List Turn) : Bool := planB x.1 x.2
def hue_isPlan_p (x : (List Hue) × List Turn) : Prop := x.1.length ≤ big
def ref08u_Plan (x : (List Hue) × List Turn) : Bool := planB x.1 x.2
def ref08u_Plan_p (x : (List Hue) × List Turn) : Prop := x.1.length ≤ big ∧ x.2.length ≤ big
def hue_ends_1 (x : Hue) : Int := dLo x
def hue_ends_1u_p (_ : Hue) : Prop := True
def hue_high (x : Span) : Int := x.2
def hue_high_p (_ : Span) : Prop := True
def hue_ends_2 (x : Hue) : Int := dHi x
def hue_ends_2u_p (_ : Hue) : Prop := True
def hue_low (x : Span) : Int := x.1
def hue_low_p (_ : Span) : Prop := True
def endLo : End := (⟨hue_ends_1u_p, hue_ends_1⟩, ⟨hue_high_p, hue_high⟩, ⟨hue_high_p, hue_high⟩)
def endHi : End := (⟨hue_ends_2u_p, hue_ends_2⟩, ⟨hue_low_p, hue_low⟩, ⟨hue_low_p, hue_low⟩)
def hue_ends (_ : Unit) : List End := [endLo, endHi]
def hue_ends_p (_ : Unit) : Prop := True
/-- A list from behind, with its places. -/
def backL : List Turn → List (Int × Turn) := fun l => ((List.range l.length).map fun (i : Nat) => ((i : Int), l.getD i (0, 0))).reverse
def slices_Backward_Lapi_Turn_api_Turn_1 (x : List Turn) : List (Int × Turn) := backL x
def slices_Backward_Lapi_Turn_api_Turn_1u_p (x : List Turn) : Prop := x.length ≤ big
def slices_Backward_Lapi_Turn_api_Turn (x : List Turn) : Seq (Int × Turn) := ⟨slices_Backward_Lapi_Turn_api_Turn_1u_p x, slices_Backward_Lapi_Turn_api_Turn_1 x⟩
def slices_Backward_Lapi_Turn_api_Turn_p (_ : List Turn) : Prop := True
def hue_end_stains (x : End × Mill × (List Hue) × (List Turn) × Int) : List Int :=
  (List.range x.2.2.2.2.toNat).map fun i => stv x.1.1.val (x.1.2.1.val x.2.1.1) (x.1.2.2.val x.2.1.2.1) x.2.2.1 x.2.2.2.1 i x.2.2.2.2.toNat
def hue_end_stains_p (x : End × Mill × (List Hue) × (List Turn) × Int) : Prop :=
  (x.1 = endLo ∨ x.1 = endHi) ∧ validB x.2.1 x.2.2.1 = true ∧ planB x.2.2.1 x.2.2.2.1 = true ∧ 0 ≤ x.2.2.2.2 ∧ x.2.2.2.2 < (x.2.2.2.1.length : Int)
def hue_greatest_int (x : Int × List Int) : Int := great x.2 x.1
def hue_greatest_int_p (x : Int × List Int) : Prop := x.2.length ≤ big
def stainsV (m : Mill) (l : List Hue) (plan : List Turn) : (List Span) × Int :=
  cond (!validB m l) ([], 1) (cond (!planB l plan) ([], 2) ((List.range plan.length).map (inS m l plan), 0))
def hue_Stains (x : Mill × (List Hue) × List Turn) : (List Span) × Int := stainsV x.1 x.2.1 x.2.2
def hue_Stains_p (_ : Mill × (List Hue) × List Turn) : Prop := True
def washesV (plan : List Turn) (a b : Int) : Int := wsum plan a.toNat (b.toNat - a.toNat)
def ref08u_Washes (x : (List Turn) × Int × Int) : Int := washesV x.1 x.2.1 x.2.2
def ref08u_Washes_p (x : (List Turn) × Int × Int) : Prop := 0 ≤ x.2.1 ∧ x.2.1 ≤ x.2.2 ∧ x.2.2 < (x.1.length : Int) ∧ x.1.length ≤ 100 ∧ ∀ t ∈ x.1, 0 ≤ t.2 ∧ t.2 ≤ 2
def ref08u_Stain (x : Mill × (List Hue) × (List Turn) × Int × Int) : Span := (stLo x.1 x.2.1 x.2.2.1 x.2.2.2.1.toNat x.2.2.2.2.toNat, stHi x.1 x.2.1 x.2.2.1 x.2.2.2.1.toNat x.2.2.2.2.toNat)
def ref08u_Stain_p (x : Mill × (List Hue) × (List Turn) × Int × Int) : Prop :=
  validB x.1 x.2.1 = true ∧ planB x.2.1 x.2.2.1 = true ∧ 0 ≤ x.2.2.2.1 ∧ x.2.2.2.1 < x.2.2.2.2 ∧ x.2.2.2.2 < (x.2.2.1.length : Int)
def ref08u_In (x : Mill × (List Hue) × (List Turn) × Int) : Span := inS x.1 x.2.1 x.2.2.1 x.2.2.2.toNat
def ref08u_In_p (x : Mill × (List Hue) × (List Turn) × Int) : Prop :=
  validB x.1 x.2.1 = true ∧ planB x.2.1 x.2.2.1 = true ∧ 0 ≤ x.2.2.2 ∧ x.2.2.2 < (x.2.2.1.length : Int)
def ref08u_Stains (x : Mill × (List Hue) × List Turn) : (List Span) × Int := stainsV x.1 x.2.1 x.2.2
def ref08u_Stains_p (x : Mill × (List Hue) × List Turn) : Prop := x.2.1.length ≤ big ∧ x.2.2.length ≤ big
def slices_IndexFunc_Lint_int (x : (List Int) × Fun Int Bool) : Int := ixF x.2.val x.1 0
def slices_IndexFunc_Lint_int_p (x : (List Int) × Fun Int Bool) : Prop := x.1.length ≤ big ∧ ∀ a ∈ x.1, x.2.pre a
def hue_Shows_1 (x : Int × Int) : Bool := decide (x.2 < x.1)
def hue_Shows_1u_p (_ : Int × Int) : Prop := True
def showsV (m : Mill) (l : List Hue) (plan : List Turn) : Int × Int × Int :=
  cond (!validB m l) (0, 0, 1) (cond (!planB l plan) (0, 0, 2) (showGo m l plan plan.length 0))
def hue_Shows (x : Mill × (List Hue) × List Turn) : Int × Int × Int := showsV x.1 x.2.1 x.2.2
def hue_Shows_p (_ : Mill × (List Hue) × List Turn) : Prop := True
def ref08u_Shows (x : Mill × (List Hue) × List Turn) : Int × Int × Int := showsV x.1 x.2.1 x.2.2
def ref08u_Shows_p (x : Mill × (List Hue) × List Turn) : Prop := x.2.1.length ≤ big ∧ x.2.2.length ≤ big
def hue_Wash_1 (x : Int × List Hue) : Bool := inB x.1 0 ((x.2.length : Int) - 1)
def hue_Wash_1u_p (x : Int × List Hue) : Prop := x.2.length ≤ big
def overV (l : List Hue) (a b : Int) : Int := (l.getD a.toNat ((0, 0), 0, 0)).1.2 - (l.getD b.toNat ((0, 0), 0, 0)).2.1
def washV (m : Mill) (l : List Hue) (a b : Int) : Int × Int :=
  cond (!validB m l) (0, 1) (cond (!inB a 0 ((l.length : Int) - 1) || !inB b 0 ((l.length : Int) - 1)) (0, 2)
    (cond (decide (overV l a b ≤ 0)) (0, 0) (cond (m.2.1.1 == 0) (0, 4) (Int.tdiv (overV l a b + m.2.1.1 - 1) m.2.1.1, 0))))
def hue_Wash (x : Mill × (List Hue) × Int × Int) : Int × Int := washV x.1 x.2.1 x.2.2.1 x.2.2.2
def hue_Wash_p (_ : Mill × (List Hue) × Int × Int) : Prop := True
def ref08u_Wash (x : Mill × (List Hue) × Int × Int) : Int × Int := washV x.1 x.2.1 x.2.2.1 x.2.2.2
def ref08u_Wash_p (x : Mill × (List Hue) × Int × Int) : Prop := x.2.1.length ≤ big
def ref08u_Spans (x : (List Span) × List Span) : Bool := decide (x.1 = x.2)
def ref08u_Spans_p (x : (List Span) × List Span) : Prop := x.1.length ≤ big
def ref08u_Turns (x : (List Turn) × List Turn) : Bool := decide (x.1 = x.2)
def ref08u_Turns_p (x : (List Turn) × List Turn) : Prop := x.1.length ≤ big
def law08u_large (x : (List Hue) × Int) : Bool := (decide (x.2 < (x.1.length : Int)) && decide ((x.1.length : Int) ≤ 6)) || decide (12 < (x.1.length : Int))
def law08u_large_p (_ : (List Hue) × Int) : Prop := True
def law08u_span (x : Int × Int) : Span := x
def law08u_span_p (_ : Int × Int) : Prop := True
def sampleM : Mill := ((20, 30), (100, 150), 40)
def sampleL : List Hue := [((60, 80), (20, 30)), ((150, 180), (100, 120)), ((500, 520), (200, 240)), ((900, 950), (600, 700))]
def law08u_sample (_ : Unit) : Mill × List Hue := (sampleM, sampleL)
def law08u_sample_p (_ : Unit) : Prop := True
def hue_state_nexts_1 (x : State × Mill) : List (Turn × Int) := nexts x.1 x.2
def hue_state_nexts_1u_p (x : State × Mill) : Prop := 0 ≤ x.1.1 ∧ x.1.1 < 64 ∧ 0 ≤ x.1.2 ∧ x.1.2 ≤ 10000 ∧ 0 ≤ x.2.2.1.1 ∧ x.2.2.1.1 ≤ 10000
def hue_state_nexts (x : State × Mill) : Seq (Turn × Int) := ⟨hue_state_nexts_1u_p x, hue_state_nexts_1 x⟩
def hue_state_nexts_p (_ : State × Mill) : Prop := True
def hue_Best_1 (x : State × Mill × List Hue) : Rest := bestV x.2.1 x.2.2 x.1
def hue_Best_1u_p (x : State × Mill × List Hue) : Prop := validB x.2.1 x.2.2 = true ∧ stateOk x.2.2 x.1
def hue_Best_1u_i (x : State × Mill × List Hue) (s : State) (r : Rest) : Prop := r = bestV x.2.1 x.2.2 s
def m42 (x : State × Mill × List Hue) : Nat := x.1.1.toNat
def hue_Best_1u_q (y x : State × Mill × List Hue) : Prop := hue_Best_1u_p x ∧ m42 x < m42 y
def slices_Clone_Lapi_Turn_api_Turn (x : List Turn) : List Turn := x
def slices_Clone_Lapi_Turn_api_Turn_p (x : List Turn) : Prop := x.length ≤ big
def bestOut (m : Mill) (l : List Hue) : (List Turn) × Int × Int :=
  cond (!validB m l) ([], 0, 1) (let r := bestV m l ((2 ^ l.length - 1 : Int), 0); cond (!r.2.2) ([], 0, 4) (r.1, r.2.1, 0))
def hue_Best (x : Mill × List Hue) : (List Turn) × Int × Int := bestOut x.1 x.2
def hue_Best_p (_ : Mill × List Hue) : Prop := True
def law08u_awake (_ : Unit) : Bool := true
def law08u_awake_p (_ : Unit) : Prop := True
def law08u_HueStains (_ : Mill × (List Hue) × (List Turn) × Int × Int) : Bool := true
def law08u_HueStains_p (_ : Mill × (List Hue) × (List Turn) × Int × Int) : Prop := True
def law08u_HueWash (_ : Mill × (List Hue) × Int × Int) : Bool := true
def law08u_HueWash_p (_ : Mill × (List Hue) × Int × Int) : Prop := True
end Go.Hue
