/-
  Chapter 3: a program bakes leads at all places just if it is one that the search may find.
-/
import Derived.Test.YtfjkenhmaebpmaaFireP13
import Derived.Test.YtfjkenhmaebpmaaFireP14
set_option linter.all false
set_option maxRecDepth 100000
set_option linter.unusedVariables false
namespace Go.Fire
open Go Go.Sx
structure Keeps (s:Stand) (l:List Int):Prop where
 first:coldV s (l.getD 0 0) s.2.1.1=true
 top:∀ i,i<l.length→coldV s (l.getD i 0) s.2.1.2.2.1=true
 rise:∀ i,1≤i→i<l.length→slowV s (l.getD (i - 1) 0) (l.getD i 0) s.2.1.2.2.2.2.1=true
 fall:∀ i,1≤i→i<l.length→slowV s (l.getD i 0) (l.getD (i - 1) 0) s.2.1.2.2.2.2.2=true
 hold:heldV s l 0=true
 last:coldV s (l.getD (l.length - 1) 0) s.2.1.1=true
structure Way (k:Kiln) (f:Fire) (l:List Stand) (p:List Int):Prop where
 num:∀ i,i<p.length→isNum k (p.getD i 0)
 first:0<p.length→allCold l (p.getD 0 0) f.1=true
 top:∀ i,i<p.length→allCold l (p.getD i 0) f.2.2.1=true
 two:∀ i,1≤i→i<p.length→max (p.getD i 0 - p.getD (i - 1) 0) (p.getD (i - 1) 0 - p.getD i 0)≤k.2.2.1∧l.all (goesV f (p.getD (i - 1) 0) (p.getD i 0))=true
variable {k:Kiln} {f:Fire} {l:List Stand}
end Go.Fire
