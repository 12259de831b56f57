/-
  Chapter 3: rules and true heats: what surely is kept is kept.
-/
import Derived.Test.YtfjkenhmaebpmaaFireSpec4
set_option linter.all false
set_option maxRecDepth 100000
set_option linter.unusedVariables false
namespace Go.Fire
open Go Go.Sx
structure Truth (s:Stand) (l h:List Int):Prop where
 len:h.length=l.length
 ex:∃ g o:Int,(s.2.2.1.1≤g∧g≤s.2.2.1.2)∧(s.2.2.2.1≤o∧o≤s.2.2.2.2)∧∀ i,i<l.length→∃ x,(max 0 (l.getD i 0 - s.1.2.1)≤x∧x≤l.getD i 0+s.1.2.1)∧h.getD i 0=g*x+1000*o
end Go.Fire
