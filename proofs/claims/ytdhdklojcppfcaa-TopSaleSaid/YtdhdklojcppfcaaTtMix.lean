/-
  The program draws its orders.
-/
import Derived.Test.YtdhdklojcppfcaaTtPrel
import Derived.Test.YtdhdklojcppfcaaProg
set_option linter.all false
set_option maxRecDepth 100000
set_option linter.unusedVariables false
open Go.Proofs.Try
namespace Go.Tt
open Go Go.Sx
theorem mixed:prog.follows .mixedOrders=true:=by kernel_rfl
abbrev mapsL:List (Nat × Nat × Nat):=[(122,3,221),(123,3,221),(147,153,3),(148,153,3),(249,3,4),(282,4,281)]
theorem maps_ok (p:Nat × Nat × Nat) (hp:p∈mapsL):prog.underlying p.1=some (.map p.2.1 p.2.2)/\Maps.Keyed prog p.2.1/\prog.keyType p.2.1=true:=by
 simp only [mapsL,List.mem_cons,List.not_mem_nil,or_false] at hp
 rcases hp with rfl | rfl | rfl | rfl | rfl | rfl
 rotate_left 5
 ·exact ⟨by kernel_rfl,Maps.bool_keyed (by kernel_rfl),by kernel_rfl⟩
 all_goals exact ⟨by kernel_rfl,Maps.int_keyed (q:=.i64) (by kernel_rfl),by kernel_rfl⟩
end Go.Tt
