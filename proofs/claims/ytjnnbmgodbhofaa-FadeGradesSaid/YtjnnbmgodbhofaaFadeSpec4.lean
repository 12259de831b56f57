/-
  Chapter 12: what the document's functions give, in plain Lean.
-/
import Derived.Test.YtjnnbmgodbhofaaFadeP7
import Derived.Test.YtjnnbmgodbhofaaFadeQ1
set_option linter.all false
set_option maxRecDepth 100000
set_option linter.unusedVariables false
namespace Go.Fade
open Go Go.Sx
def ent (t : List (List Int)) (a b : Int) : Int := (t.getD (Int.toNat a) []).getD (Int.toNat b) 0
def mostT (t : List (List Int)) (a b v : Int) : List (List Int) := t.set (Int.toNat a) ((t.getD (Int.toNat a) []).set (Int.toNat b) (min ((t.getD (Int.toNat a) []).getD (Int.toNat b) 0) v))
def sizeN (f : Fading) : Nat := 1 + f.1.length + f.2.1.length + f.2.2.1.toNat
def ptN (f : Fading) (a : Nat) : Nat := if a ≤ f.1.length then a else if a ≤ f.1.length + f.2.1.length then 13 + (a - f.1.length - 1) else 21 + (a - f.1.length - f.2.1.length - 1)
def cutF (f : Fading) (m : Nat) : Fading := (f.1, f.2.1, f.2.2.1, f.2.2.2.take m)
def tabOf (f : Fading) (b : Bds) : Bds := (List.range (sizeN f)).map fun a => (List.range (sizeN f)).map fun c => gt b (ptN f a) (ptN f c)
def tableV (f : Fading) (m : Nat) : Bds × Bool := match enterL noBounds (allL (cutF f m)) with
 | none => ([], false)
 | some b => (tabOf f b, true)
def ref12u_Ref (x : Fading × Int) : Int := (1 + (x.1.1.length : Int)) + x.2
def ref12u_Ref_p (x : Fading × Int) : Prop := x.1.1.length ≤ 100 ∧ -1000 ≤ x.2 ∧ x.2 ≤ 1000
def ref12u_Sample (x : Fading × Int) : Int := ((1 + (x.1.1.length : Int)) + (x.1.2.1.length : Int)) + x.2
def ref12u_Sample_p (x : Fading × Int) : Prop := (x.1.1.length ≤ 100 ∧ x.1.2.1.length ≤ 100) ∧ -1000 ≤ x.2 ∧ x.2 ≤ 1000
def ref12u_Of (x : Fading × Int × Int) : Int := cond (x.2.1 == 0) (ref12u_Ref (x.1, x.2.2)) (ref12u_Sample (x.1, x.2.2))
def ref12u_Of_p (x : Fading × Int × Int) : Prop := (x.1.1.length ≤ 100 ∧ x.1.2.1.length ≤ 100) ∧ -1000 ≤ x.2.2 ∧ x.2.2 ≤ 1000
def ref12u_TableOf (x : Fading × Int) : Bds × Bool := tableV x.1 x.2.toNat
def ref12u_TableOf_p (x : Fading × Int) : Prop := cardsB x.1 = true ∧ 0 ≤ x.2 ∧ x.2 ≤ (x.1.2.2.2.length : Int)
def ref12u_Table_Span (x : Bds × Int) : Span := (-(ent x.1 0 x.2), ent x.1 x.2 0)
def ref12u_Table_Span_p (x : Bds × Int) : Prop := (0 ≤ x.2 ∧ x.2 < (x.1.length : Int)) ∧ (x.2 < ((x.1.getD 0 []).length : Int) ∧ 0 < (x.1.getD x.2.toNat []).length) ∧ Z.in64 (-(ent x.1 0 x.2))
def ref12u_Light (x : Fading × Int) : Span × Int := lightV x.1 x.2
def ref12u_Light_p (x : Fading × Int) : Prop := sizeP x.1
def ref12u_Fast (x : Fading × Int × Int) : Span × Int := fastV x.1 x.2.1 x.2.2
def ref12u_Fast_p (x : Fading × Int × Int) : Prop := sizeP x.1
def ref12u_Grade (x : Fading × Int) : Span × Int := gradeV x.1 x.2
def ref12u_Grade_p (x : Fading × Int) : Prop := sizeP x.1
def ref12u_Clash (x : Fading) : Int × Int := clashV x
def ref12u_Clash_p (x : Fading) : Prop := sizeP x
def ref12u_Until (x : Fading × Int × Span) : Int × Int := untilV x.1 x.2.1 x.2.2
def ref12u_Until_p (x : Fading × Int × Span) : Prop := sizeP x.1
def law12u_FadeSpans (x : Fading × Int × Int × Int × Int) : Bool := true
def law12u_FadeSpans_p (x : Fading × Int × Int × Int × Int) : Prop := True
def law12u_FadeClashes (x : Fading × Int × Span) : Bool := true
def law12u_FadeClashes_p (x : Fading × Int × Span) : Prop := True
def law12u_FadeGrades (x : Fading × Int) : Bool := true
def law12u_FadeGrades_p (x : Fading × Int) : Prop := True
end Go.Fade
