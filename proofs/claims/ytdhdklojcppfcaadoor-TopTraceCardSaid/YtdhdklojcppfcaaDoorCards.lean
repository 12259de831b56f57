/-
  DERIVED. GIVEN WITH THE SEED: THE CARDS: each row of YtdhdklojcppfcaaDoorRows.lean that lists a variable, with what it lists TIED to the program's text (the seventh form; the later family's looks); each row that meets fmt, with fmt's text TOLD by the authors' own Lean function (tested against real Go, not proved from fmt's source: count such statements apart). THE CARD IS WHAT COUNTS. Prove the row's statement (the work); the ties are given (YtdhdklojcppfcaaDoorTie.lean); close each card by the builder's one call (the guide's Derived/Test/ToyasCard.lean, 'card_holds'). Laid BY PROGRAM, IN A SANDBOX (cutbox-door.mjs). By AI agents, Wed Nov 11 2026. No macro, syntax, notation, axiom, sorry.
-/
import Derived.Test.YtdhdklojcppfcaaDoorRows
import GoSem.ClaimSeven
namespace Go.Proofs.YtdhdklojcppfcaaDoor
namespace Rows

/-- THE TIED CARD OF 'pencilworkstop.TopTrace'. -/
def topTraceCard : Claim7 := { stood := { row := topTraceRow, standIns := [], harness := (true, "b81980e78d8413d9bbf8b9f15cb68184b7103a5be4eb7cf0905490fa16aaaf4b"), looks := false }, kinds := [], alts := [], laidByText := true, laidKinds := [.data], laidTests := true, laidLooks := .later }
def TopTraceCardSaid : Prop := Claim7.holds Tryd.pinned (.plain (OpenSpec.ofChange topTraceSpec)) topTraceCard

/-- THE SECOND FORM's CARD OF 'pencilworkstop.TopTrace'. -/
def topTraceUptoCard : Claim7 := { stood := { row := topTraceUptoRow, standIns := [], harness := (true, "b81980e78d8413d9bbf8b9f15cb68184b7103a5be4eb7cf0905490fa16aaaf4b"), looks := false }, kinds := [], alts := [], laidByText := true, laidKinds := [.data], laidTests := true, laidLooks := .later }
def TopTraceUptoCardSaid : Prop := Claim7.holds Tryd.pinned (.plain (OpenSpec.upto topTraceSpec)) topTraceUptoCard
end Rows
end Go.Proofs.YtdhdklojcppfcaaDoor
