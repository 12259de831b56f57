/-
  TopSale: what its functions give.
-/
import Derived.Test.YtdhdklojcppfcaaTtRSpec
set_option linter.all false
set_option maxRecDepth 100000
set_option linter.unusedVariables false
namespace Go.Tt
open Go Go.Sx
def zeC (_:Unit):Bool:=true
def zeb (_:Unit):Prop:=True
abbrev SaleIn:=(List Int) × (List Pile) × Int
def zdx (_:SaleIn):Bool:=true
def zfW (_:SaleIn):Prop:=True
end Go.Tt
