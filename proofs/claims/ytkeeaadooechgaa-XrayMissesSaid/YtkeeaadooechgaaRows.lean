/-
  No cell of these rows narrows 'for every input' (looked for: loops, veiled, ifaces, maps, wideKeys, modest, calm, conditions, laid).
  DERIVED. THE GIVEN ROWS OF THIS SEAT. 9 by the template 'for every input the law returns true; each argument reads behind the call as it read before'; 0 by the template 'total and deterministic' (their statements: YtkeeaadooechgaaTotals.lean).
  GIVEN WITH THE SEED: the statements are not yours to turn. If you find one false, say at which input.
  Laid BY PROGRAM, IN A SANDBOX (cutbox-rows.mjs): the forced cells as the released guide's own fill.sh prints them over the translation 98f81e0b70bf15c9… (all of the seat's roots in one cut). By AI agents, Wed Nov 11 2026. No macro, syntax, notation, axiom, sorry.
-/
import Derived.Test.YtkeeaadooechgaaChecked
import GoSem.Claim
import GoSem.ClaimJoined
import GoSem.ClaimMapViews
import Derived.JoinedTies
import Derived.KernelRfl
namespace Go.Proofs.Ytkeeaadooechgaa
/- THE CELL 'sum', in the pinned program and in every row, IS THE sha256 OF THE DUMP (.gsa) THAT YtkeeaadooechgaaProg.lean LOADS. Nothing in Lean hashes anything: it is a label: what it is worth is what the hold of that sum in a sandbox is worth. -/
noncomputable def Try.pinned : Pinned := { name := "ytkeeaadooechgaa", sum := "98f81e0b70bf15c91a9a21b9cafddd0ed039ce20067f75adf73f0d98f9120052", checked := Try.checked }
namespace Rows
def none {H : Type} : Left H := { results := [], args := [] }

/-- 'pencilworkslaw06.XrayCounts': WHATEVER THE INPUT: true; the input reads as it did. -/
def xrayCountsSpec : ChangeSpec := { name := "xrayCounts", fn := fun _ => fun
  | [d1, d2, d3, d4] => { results := [.lit (.bool true)], args := [d1, d2, d3, d4] }
  | _ => none }
def xrayCountsRow : OpenClaim := { program := "ytkeeaadooechgaa", sum := "98f81e0b70bf15c91a9a21b9cafddd0ed039ce20067f75adf73f0d98f9120052", func := "pencilworks/pencilworkslaw06.XrayCounts", spec := "xrayCounts", unfollowed := true, recurses := true, apart := false }
def XrayCountsSaid : Prop := xrayCountsRow.holds Try.pinned (OpenSpec.ofChange xrayCountsSpec)

/-- ITS FALSE NEIGHBOUR: 'it returns false'. Refute it at one input. -/
def xrayCountsWrong : ChangeSpec := { name := "xrayCounts", fn := fun _ => fun
  | [d1, d2, d3, d4] => { results := [.lit (.bool false)], args := [d1, d2, d3, d4] }
  | _ => none }
def XrayCountsWrongFalsely : Prop := xrayCountsRow.holds Try.pinned (OpenSpec.ofChange xrayCountsWrong)

/-- 'pencilworkslaw06.XrayMisses': WHATEVER THE INPUT: true; the input reads as it did. -/
def xrayMissesSpec : ChangeSpec := { name := "xrayMisses", fn := fun _ => fun
  | [d1, d2, d3] => { results := [.lit (.bool true)], args := [d1, d2, d3] }
  | _ => none }
def xrayMissesRow : OpenClaim := { program := "ytkeeaadooechgaa", sum := "98f81e0b70bf15c91a9a21b9cafddd0ed039ce20067f75adf73f0d98f9120052", func := "pencilworks/pencilworkslaw06.XrayMisses", spec := "xrayMisses", unfollowed := true, recurses := true, apart := false }
def XrayMissesSaid : Prop := xrayMissesRow.holds Try.pinned (OpenSpec.ofChange xrayMissesSpec)

/-- ITS FALSE NEIGHBOUR: 'it returns false'. Refute it at one input. -/
def xrayMissesWrong : ChangeSpec := { name := "xrayMisses", fn := fun _ => fun
  | [d1, d2, d3] => { results := [.lit (.bool false)], args := [d1, d2, d3] }
  | _ => none }
def XrayMissesWrongFalsely : Prop := xrayMissesRow.holds Try.pinned (OpenSpec.ofChange xrayMissesWrong)

/-- 'pencilworkslaw06.XrayNames': WHATEVER THE INPUT: true; the input reads as it did. -/
def xrayNamesSpec : ChangeSpec := { name := "xrayNames", fn := fun _ => fun
  | [] => { results := [.lit (.bool true)], args := [] }
  | _ => none }
def xrayNamesRow : OpenClaim := { program := "ytkeeaadooechgaa", sum := "98f81e0b70bf15c91a9a21b9cafddd0ed039ce20067f75adf73f0d98f9120052", func := "pencilworks/pencilworkslaw06.XrayNames", spec := "xrayNames", unfollowed := true, recurses := true, apart := false }
def XrayNamesSaid : Prop := xrayNamesRow.holds Try.pinned (OpenSpec.ofChange xrayNamesSpec)

/-- ITS FALSE NEIGHBOUR: 'it returns false'. Refute it at one input. -/
def xrayNamesWrong : ChangeSpec := { name := "xrayNames", fn := fun _ => fun
  | [] => { results := [.lit (.bool false)], args := [] }
  | _ => none }
def XrayNamesWrongFalsely : Prop := xrayNamesRow.holds Try.pinned (OpenSpec.ofChange xrayNamesWrong)

/-- 'pencilworkslaw06.XrayTrue': WHATEVER THE INPUT: true; the input reads as it did. -/
def xrayTrueSpec : ChangeSpec := { name := "xrayTrue", fn := fun _ => fun
  | [d1, d2, d3, d4] => { results := [.lit (.bool true)], args := [d1, d2, d3, d4] }
  | _ => none }
def xrayTrueRow : OpenClaim := { program := "ytkeeaadooechgaa", sum := "98f81e0b70bf15c91a9a21b9cafddd0ed039ce20067f75adf73f0d98f9120052", func := "pencilworks/pencilworkslaw06.XrayTrue", spec := "xrayTrue", unfollowed := true, recurses := true, apart := false }
def XrayTrueSaid : Prop := xrayTrueRow.holds Try.pinned (OpenSpec.ofChange xrayTrueSpec)

/-- ITS FALSE NEIGHBOUR: 'it returns false'. Refute it at one input. -/
def xrayTrueWrong : ChangeSpec := { name := "xrayTrue", fn := fun _ => fun
  | [d1, d2, d3, d4] => { results := [.lit (.bool false)], args := [d1, d2, d3, d4] }
  | _ => none }
def XrayTrueWrongFalsely : Prop := xrayTrueRow.holds Try.pinned (OpenSpec.ofChange xrayTrueWrong)

/-- 'pencilworkslaw06.XrayEnds': WHATEVER THE INPUT: true; the input reads as it did. -/
def xrayEndsSpec : ChangeSpec := { name := "xrayEnds", fn := fun _ => fun
  | [d1, d2, d3, d4] => { results := [.lit (.bool true)], args := [d1, d2, d3, d4] }
  | _ => none }
def xrayEndsRow : OpenClaim := { program := "ytkeeaadooechgaa", sum := "98f81e0b70bf15c91a9a21b9cafddd0ed039ce20067f75adf73f0d98f9120052", func := "pencilworks/pencilworkslaw06.XrayEnds", spec := "xrayEnds", unfollowed := true, recurses := true, apart := false }
def XrayEndsSaid : Prop := xrayEndsRow.holds Try.pinned (OpenSpec.ofChange xrayEndsSpec)

/-- ITS FALSE NEIGHBOUR: 'it returns false'. Refute it at one input. -/
def xrayEndsWrong : ChangeSpec := { name := "xrayEnds", fn := fun _ => fun
  | [d1, d2, d3, d4] => { results := [.lit (.bool false)], args := [d1, d2, d3, d4] }
  | _ => none }
def XrayEndsWrongFalsely : Prop := xrayEndsRow.holds Try.pinned (OpenSpec.ofChange xrayEndsWrong)

/-- 'pencilworkslaw06.XrayEnough': WHATEVER THE INPUT: true; the input reads as it did. -/
def xrayEnoughSpec : ChangeSpec := { name := "xrayEnough", fn := fun _ => fun
  | [d1, d2, d3] => { results := [.lit (.bool true)], args := [d1, d2, d3] }
  | _ => none }
def xrayEnoughRow : OpenClaim := { program := "ytkeeaadooechgaa", sum := "98f81e0b70bf15c91a9a21b9cafddd0ed039ce20067f75adf73f0d98f9120052", func := "pencilworks/pencilworkslaw06.XrayEnough", spec := "xrayEnough", unfollowed := true, recurses := true, apart := false }
def XrayEnoughSaid : Prop := xrayEnoughRow.holds Try.pinned (OpenSpec.ofChange xrayEnoughSpec)

/-- ITS FALSE NEIGHBOUR: 'it returns false'. Refute it at one input. -/
def xrayEnoughWrong : ChangeSpec := { name := "xrayEnough", fn := fun _ => fun
  | [d1, d2, d3] => { results := [.lit (.bool false)], args := [d1, d2, d3] }
  | _ => none }
def XrayEnoughWrongFalsely : Prop := xrayEnoughRow.holds Try.pinned (OpenSpec.ofChange xrayEnoughWrong)

/-- 'pencilworkslaw06.XrayMore': WHATEVER THE INPUT: true; the input reads as it did. -/
def xrayMoreSpec : ChangeSpec := { name := "xrayMore", fn := fun _ => fun
  | [d1, d2, d3, d4] => { results := [.lit (.bool true)], args := [d1, d2, d3, d4] }
  | _ => none }
def xrayMoreRow : OpenClaim := { program := "ytkeeaadooechgaa", sum := "98f81e0b70bf15c91a9a21b9cafddd0ed039ce20067f75adf73f0d98f9120052", func := "pencilworks/pencilworkslaw06.XrayMore", spec := "xrayMore", unfollowed := true, recurses := true, apart := false }
def XrayMoreSaid : Prop := xrayMoreRow.holds Try.pinned (OpenSpec.ofChange xrayMoreSpec)

/-- ITS FALSE NEIGHBOUR: 'it returns false'. Refute it at one input. -/
def xrayMoreWrong : ChangeSpec := { name := "xrayMore", fn := fun _ => fun
  | [d1, d2, d3, d4] => { results := [.lit (.bool false)], args := [d1, d2, d3, d4] }
  | _ => none }
def XrayMoreWrongFalsely : Prop := xrayMoreRow.holds Try.pinned (OpenSpec.ofChange xrayMoreWrong)

/-- 'pencilworkslaw06.XrayFewer': WHATEVER THE INPUT: true; the input reads as it did. -/
def xrayFewerSpec : ChangeSpec := { name := "xrayFewer", fn := fun _ => fun
  | [d1, d2, d3, d4, d5] => { results := [.lit (.bool true)], args := [d1, d2, d3, d4, d5] }
  | _ => none }
def xrayFewerRow : OpenClaim := { program := "ytkeeaadooechgaa", sum := "98f81e0b70bf15c91a9a21b9cafddd0ed039ce20067f75adf73f0d98f9120052", func := "pencilworks/pencilworkslaw06.XrayFewer", spec := "xrayFewer", unfollowed := true, recurses := true, apart := false }
def XrayFewerSaid : Prop := xrayFewerRow.holds Try.pinned (OpenSpec.ofChange xrayFewerSpec)

/-- ITS FALSE NEIGHBOUR: 'it returns false'. Refute it at one input. -/
def xrayFewerWrong : ChangeSpec := { name := "xrayFewer", fn := fun _ => fun
  | [d1, d2, d3, d4, d5] => { results := [.lit (.bool false)], args := [d1, d2, d3, d4, d5] }
  | _ => none }
def XrayFewerWrongFalsely : Prop := xrayFewerRow.holds Try.pinned (OpenSpec.ofChange xrayFewerWrong)

/-- 'pencilworkslaw06.XrayOwns': WHATEVER THE INPUT: true; the input reads as it did. -/
def xrayOwnsSpec : ChangeSpec := { name := "xrayOwns", fn := fun _ => fun
  | [d1, d2, d3, d4] => { results := [.lit (.bool true)], args := [d1, d2, d3, d4] }
  | _ => none }
def xrayOwnsRow : OpenClaim := { program := "ytkeeaadooechgaa", sum := "98f81e0b70bf15c91a9a21b9cafddd0ed039ce20067f75adf73f0d98f9120052", func := "pencilworks/pencilworkslaw06.XrayOwns", spec := "xrayOwns", unfollowed := true, recurses := true, apart := false }
def XrayOwnsSaid : Prop := xrayOwnsRow.holds Try.pinned (OpenSpec.ofChange xrayOwnsSpec)

/-- ITS FALSE NEIGHBOUR: 'it returns false'. Refute it at one input. -/
def xrayOwnsWrong : ChangeSpec := { name := "xrayOwns", fn := fun _ => fun
  | [d1, d2, d3, d4] => { results := [.lit (.bool false)], args := [d1, d2, d3, d4] }
  | _ => none }
def XrayOwnsWrongFalsely : Prop := xrayOwnsRow.holds Try.pinned (OpenSpec.ofChange xrayOwnsWrong)

/- THE SECOND FORM. 'bulk': how many values and letters a reading holds, each counted each time it is reached (what is shared counts as often as it is met; a slice's spare places count too). A statement '..UptoSaid' is the law's where the arguments, and the package variables that the reading takes, are together of bulk at most 1048576: NARROWER than '..Said'. Prove '..Said' where nothing that the law and all that it calls make is longer than what came in: it says more and counts as full. Else prove '..UptoSaid'. A law counts once. -/
mutual
def uptoBulk {H : Type} : DataW H → Nat
  | .lit (.string bytes) => bytes.length + 1
  | .lit _ => 1
  | .nil => 1
  | .ptr d => uptoBulk d + 1
  | .slice elems spare => uptoBulkAll elems + uptoBulkAll spare + 1
  | .agg parts => uptoBulkAll parts + 1
  | .iface _ d => uptoBulk d + 1
  | .map entries => uptoBulkEntries entries + 1
  | .held _ => 1
def uptoBulkAll {H : Type} : List (DataW H) → Nat
  | [] => 0
  | d :: r => uptoBulk d + uptoBulkAll r
def uptoBulkEntries {H : Type} : List (Lit × DataW H) → Nat
  | [] => 0
  | x :: r => uptoBulkEntry x + uptoBulkEntries r
def uptoBulkEntry {H : Type} : Lit × DataW H → Nat
  | (.string bytes, d) => bytes.length + uptoBulk d + 1
  | (_, d) => uptoBulk d + 1
 end
def uptoSmall : (H : Type) → List (DataW H) → Bool := fun _ ds => decide (uptoBulkAll ds ≤ 1048576)
def OpenSpec.upto (s : _root_.Go.ChangeSpec) : _root_.Go.OpenSpec := { _root_.Go.OpenSpec.ofChange s with cond := some uptoSmall }

/-- 'pencilworkslaw06.XrayCounts', WHERE WHAT IT READS IS OF BULK AT MOST 1048576: true; the input reads as it did. -/
def xrayCountsUptoRow : OpenClaim := { program := "ytkeeaadooechgaa", sum := "98f81e0b70bf15c91a9a21b9cafddd0ed039ce20067f75adf73f0d98f9120052", func := "pencilworks/pencilworkslaw06.XrayCounts", spec := "xrayCounts", unfollowed := true, recurses := true, apart := false, narrowed := true }
def XrayCountsUptoSaid : Prop := xrayCountsUptoRow.holds Try.pinned (OpenSpec.upto xrayCountsSpec)

/-- 'pencilworkslaw06.XrayMisses', WHERE WHAT IT READS IS OF BULK AT MOST 1048576: true; the input reads as it did. -/
def xrayMissesUptoRow : OpenClaim := { program := "ytkeeaadooechgaa", sum := "98f81e0b70bf15c91a9a21b9cafddd0ed039ce20067f75adf73f0d98f9120052", func := "pencilworks/pencilworkslaw06.XrayMisses", spec := "xrayMisses", unfollowed := true, recurses := true, apart := false, narrowed := true }
def XrayMissesUptoSaid : Prop := xrayMissesUptoRow.holds Try.pinned (OpenSpec.upto xrayMissesSpec)

/-- 'pencilworkslaw06.XrayNames', WHERE WHAT IT READS IS OF BULK AT MOST 1048576: true; the input reads as it did. -/
def xrayNamesUptoRow : OpenClaim := { program := "ytkeeaadooechgaa", sum := "98f81e0b70bf15c91a9a21b9cafddd0ed039ce20067f75adf73f0d98f9120052", func := "pencilworks/pencilworkslaw06.XrayNames", spec := "xrayNames", unfollowed := true, recurses := true, apart := false, narrowed := true }
def XrayNamesUptoSaid : Prop := xrayNamesUptoRow.holds Try.pinned (OpenSpec.upto xrayNamesSpec)

/-- 'pencilworkslaw06.XrayTrue', WHERE WHAT IT READS IS OF BULK AT MOST 1048576: true; the input reads as it did. -/
def xrayTrueUptoRow : OpenClaim := { program := "ytkeeaadooechgaa", sum := "98f81e0b70bf15c91a9a21b9cafddd0ed039ce20067f75adf73f0d98f9120052", func := "pencilworks/pencilworkslaw06.XrayTrue", spec := "xrayTrue", unfollowed := true, recurses := true, apart := false, narrowed := true }
def XrayTrueUptoSaid : Prop := xrayTrueUptoRow.holds Try.pinned (OpenSpec.upto xrayTrueSpec)

/-- 'pencilworkslaw06.XrayEnds', WHERE WHAT IT READS IS OF BULK AT MOST 1048576: true; the input reads as it did. -/
def xrayEndsUptoRow : OpenClaim := { program := "ytkeeaadooechgaa", sum := "98f81e0b70bf15c91a9a21b9cafddd0ed039ce20067f75adf73f0d98f9120052", func := "pencilworks/pencilworkslaw06.XrayEnds", spec := "xrayEnds", unfollowed := true, recurses := true, apart := false, narrowed := true }
def XrayEndsUptoSaid : Prop := xrayEndsUptoRow.holds Try.pinned (OpenSpec.upto xrayEndsSpec)

/-- 'pencilworkslaw06.XrayEnough', WHERE WHAT IT READS IS OF BULK AT MOST 1048576: true; the input reads as it did. -/
def xrayEnoughUptoRow : OpenClaim := { program := "ytkeeaadooechgaa", sum := "98f81e0b70bf15c91a9a21b9cafddd0ed039ce20067f75adf73f0d98f9120052", func := "pencilworks/pencilworkslaw06.XrayEnough", spec := "xrayEnough", unfollowed := true, recurses := true, apart := false, narrowed := true }
def XrayEnoughUptoSaid : Prop := xrayEnoughUptoRow.holds Try.pinned (OpenSpec.upto xrayEnoughSpec)

/-- 'pencilworkslaw06.XrayMore', WHERE WHAT IT READS IS OF BULK AT MOST 1048576: true; the input reads as it did. -/
def xrayMoreUptoRow : OpenClaim := { program := "ytkeeaadooechgaa", sum := "98f81e0b70bf15c91a9a21b9cafddd0ed039ce20067f75adf73f0d98f9120052", func := "pencilworks/pencilworkslaw06.XrayMore", spec := "xrayMore", unfollowed := true, recurses := true, apart := false, narrowed := true }
def XrayMoreUptoSaid : Prop := xrayMoreUptoRow.holds Try.pinned (OpenSpec.upto xrayMoreSpec)

/-- 'pencilworkslaw06.XrayFewer', WHERE WHAT IT READS IS OF BULK AT MOST 1048576: true; the input reads as it did. -/
def xrayFewerUptoRow : OpenClaim := { program := "ytkeeaadooechgaa", sum := "98f81e0b70bf15c91a9a21b9cafddd0ed039ce20067f75adf73f0d98f9120052", func := "pencilworks/pencilworkslaw06.XrayFewer", spec := "xrayFewer", unfollowed := true, recurses := true, apart := false, narrowed := true }
def XrayFewerUptoSaid : Prop := xrayFewerUptoRow.holds Try.pinned (OpenSpec.upto xrayFewerSpec)

/-- 'pencilworkslaw06.XrayOwns', WHERE WHAT IT READS IS OF BULK AT MOST 1048576: true; the input reads as it did. -/
def xrayOwnsUptoRow : OpenClaim := { program := "ytkeeaadooechgaa", sum := "98f81e0b70bf15c91a9a21b9cafddd0ed039ce20067f75adf73f0d98f9120052", func := "pencilworks/pencilworkslaw06.XrayOwns", spec := "xrayOwns", unfollowed := true, recurses := true, apart := false, narrowed := true }
def XrayOwnsUptoSaid : Prop := xrayOwnsUptoRow.holds Try.pinned (OpenSpec.upto xrayOwnsSpec)

end Rows
end Go.Proofs.Ytkeeaadooechgaa
