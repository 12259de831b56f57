/- Written by a program of mine (wip/tools/gen.py): contexts and conditions of functions. -/
import Derived.Test.YtkeeaadooechgaaXrAuto2
import Derived.Test.YtkeeaadooechgaaXrSpec4
import Derived.Test.YtkeeaadooechgaaProg
set_option linter.all false
set_option linter.unusedVariables false
set_option maxRecDepth 100000
set_option maxHeartbeats 4000000
namespace Go.Xr
open Go Go.Sx
def k8:Con:={ args:=[(.st (.p (.sl I) (.p I (.p I I)))),I,(.sl (.i .u8))],res:=[.bo],pre:=law06u_XrayEnough_p,val:=law06u_XrayEnough }
end Go.Xr
