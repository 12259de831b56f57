/-
  Chapter 12: what the further functions give, in plain Lean.
-/
import Derived.Test.YtjnnbmgodbhofaaFadeP7
import Derived.Test.YtjnnbmgodbhofaaFadeQ1
set_option linter.all false


set_option maxRecDepth 100000
namespace Go.Fade
open Go Go.Sx

/-- A step carried out so often; it is told its number. -/
def itn {S : Type} (f : Nat → S → S) : Nat → S → S
  | 0, s => s
  | k + 1, s => f k (itn f k s)
/-- The number that is drawn next, below n. -/
def drawV (bs : List Int) (z n : Int) : Int := Int.tmod (Go.IntKind.wrap .i64 (Int.fdiv (bs.getD (Int.toNat (Int.tmod (z + 1) (bs.length : Int))) 0) (2 ^ (Int.toNat ((Int.tmod (z + 1) 9)))))) n
def pickV (s : Span) (b : Int) : Int := s.1 + Int.tmod (Go.IntKind.wrap .i64 b) ((s.2 - s.1) + 1)
def stepM (months : List Span) (bs : List Int) (k : Nat) (l : List Int) : List Int := l ++ [l.getD k 0 + pickV (months.getD k (0, 0)) (bs.getD (Int.toNat (Int.tmod (k : Int) (bs.length : Int))) 0)]
def lightsV (months : List Span) (bs : List Int) : List Int := itn (stepM months bs) months.length [0]
/-- What has been drawn, where the references are, what they take, what is told of them. -/
abbrev RSt := Int × Int × (List Int) × List Span
def stepR (bs : List Int) (A : Int) (_ : Nat) (s : RSt) : RSt :=
  let a := s.2.1 + (1 + drawV bs s.1 (Int.tdiv A 3 + 1))
  (s.1 + 1 + 1 + 1, a, s.2.2.1 ++ [a], s.2.2.2 ++ [(max 1 (a - drawV bs (s.1 + 1) (Int.tdiv A 4 + 1)), a + drawV bs (s.1 + 1 + 1) (Int.tdiv A 4 + 1))])
abbrev SSt := Int × List Int
def stepS (bs : List Int) (A : Int) (_ : Nat) (s : SSt) : SSt := (s.1 + 1, s.2 ++ [1 + drawV bs s.1 (A + Int.tdiv A 8 + 1)])
abbrev CSt := Int × List Check
def checkV (bs : List Int) (lights refs samples : List Int) (n : Int) (z : Int) : Int × Int × Int × Bool :=
  let m := drawV bs z (n + 1)
  let w := drawV bs (z + 1) 2
  let takes := cond (w == 1) samples refs
  let i := drawV bs (z + 1 + 1) (takes.length : Int)
  (m, w, i, decide (takes.getD i.toNat 0 ≤ lights.getD m.toNat 0))
def stepC (bs : List Int) (lights refs samples : List Int) (n : Int) (_ : Nat) (s : CSt) : CSt :=
  let w := drawV bs (s.1 + 1) 2
  let takes := cond (w == 1) samples refs
  cond (decide ((0 : Int) < (takes.length : Int)) && decide ((s.2.length : Int) < 40)) (s.1 + 1 + 1 + 1, s.2 ++ [checkV bs lights refs samples n s.1]) (s.1 + 1 + 1, s.2)
def refsV (months : List Span) (refs : Int) (bs : List Int) : RSt := itn (stepR bs ((lightsV months bs).getD months.length 0 + 2)) refs.toNat (0, 0, [], [])
def samplesV (months : List Span) (refs samples : Int) (bs : List Int) : SSt := itn (stepS bs ((lightsV months bs).getD months.length 0 + 2)) samples.toNat ((refsV months refs bs).1, [])
def drawnV (months : List Span) (refs samples : Int) (bs : List Int) : CSt :=
  itn (stepC bs (lightsV months bs) (refsV months refs bs).2.2.1 (samplesV months refs samples bs).2 (months.length : Int)) (3 * bs.length) ((samplesV months refs samples bs).1, [])
/-- The cards, and the truth. -/
def truthV (months : List Span) (refs samples : Int) (bs : List Int) : Fading × (List Int) × (List Int) × List Int :=
  ((months, (refsV months refs bs).2.2.2, samples, (drawnV months refs samples bs).2), lightsV months bs, (refsV months refs bs).2.2.1, (samplesV months refs samples bs).2)

def BsOk (bs : List Int) : Prop := (bs ≠ [] ∧ bs.length ≤ 140737488355328) ∧ ∀ b ∈ bs, 0 ≤ b ∧ b ≤ 4294967295
def law12u_truth_1 (x : Int × Int × List Int) : Int × Int := (drawV x.2.2 x.2.1 x.1, x.2.1 + 1)
def law12u_truth_1u_p (x : Int × Int × List Int) : Prop := ((0 < x.1 ∧ x.1 ≤ 4294967295) ∧ 0 ≤ x.2.1 ∧ x.2.1 ≤ 1152921504606846976) ∧ BsOk x.2.2
def law12u_pick (x : Span × Int) : Int := pickV x.1 x.2
def law12u_pick_p (x : Span × Int) : Prop := ((0 ≤ x.1.1 ∧ x.1.1 ≤ x.1.2) ∧ x.1.2 ≤ 1000000) ∧ 0 ≤ x.2 ∧ x.2 ≤ 4294967295
def law12u_truth (x : (List Span) × Int × Int × List Int) : Fading × (List Int) × (List Int) × List Int := truthV x.1 x.2.1 x.2.2.1 x.2.2.2
def law12u_truth_p (x : (List Span) × Int × Int × List Int) : Prop := ((x.1.length ≤ 12 ∧ ∀ s ∈ x.1, (0 ≤ s.1 ∧ s.1 ≤ s.2) ∧ s.2 ≤ 1000000) ∧ (0 ≤ x.2.1 ∧ x.2.1 ≤ 8) ∧ 0 ≤ x.2.2.1 ∧ x.2.2.1 ≤ 6) ∧ BsOk x.2.2.2
def law12u_FadeTrue (_ : (List Span) × Int × Int × (List Int) × Int × Int) : Bool := true
def law12u_FadeTrue_p (x : (List Span) × Int × Int × (List Int) × Int × Int) : Prop :=
  ((0 ≤ x.2.1 ∧ x.2.1 ≤ 255) ∧ (0 ≤ x.2.2.1 ∧ x.2.2.1 ≤ 255)) ∧ x.2.2.2.1.length ≤ 140737488355328 ∧ ∀ b ∈ x.2.2.2.1, 0 ≤ b ∧ b ≤ 4294967295
end Go.Fade
