/-
  Chapter 12: what the functions of FadeMore give, in plain Lean.
-/
import Derived.Test.YtjnnbmgodbhofaaFadeQ1
import Derived.Test.YtjnnbmgodbhofaaFadeP7
set_option linter.all false
set_option maxRecDepth 100000
set_option linter.unusedVariables false
namespace Go.Fade
open Go Go.Sx
def law12u_FadeMore_1 (x : Span × Span) : Bool := decide (x.2.1 ≤ x.1.1) && decide (x.1.2 ≤ x.2.2)
def law12u_FadeMore_1u_p (_ : Span × Span) : Prop := True
def law12u_FadeMore (_ : Fading × Check × Int × Int × Int × Int × Int) : Bool := true
def i64 (n : Int) : Prop := -9223372036854775808 ≤ n ∧ n ≤ 9223372036854775807
def law12u_FadeMore_p (x : Fading × Check × Int × Int × Int × Int × Int) : Prop := (i64 x.2.2.2.2.1 ∧ i64 x.2.2.2.2.2.1) ∧ 0 ≤ x.2.2.2.2.2.2 ∧ x.2.2.2.2.2.2 ≤ 255
end Go.Fade
