/-
  Chapter 12: FadeEnds.
-/
import Derived.Test.YtjnnbmgodbhofaaFadeO3
import Derived.Test.YtjnnbmgodbhofaaFadeP6
set_option linter.all false
set_option maxRecDepth 1000000
namespace Go.Fade
open Go Go.Sx
end Go.Fade
