/-
  No cell of these rows narrows 'for every input' (looked for: loops, veiled, ifaces, maps, wideKeys, modest, calm, conditions, laid).
  DERIVED. THE GIVEN ROWS OF THIS SEAT. 6 by the template 'for every input the law returns true; each argument reads behind the call as it read before'; 0 by the template 'total and deterministic' (their statements: YtihkgphflgojeaaTotals.lean).
  GIVEN WITH THE SEED: the statements are not yours to turn. If you find one false, say at which input.
  Laid BY PROGRAM, IN A SANDBOX (cutbox-rows.mjs): the forced cells as the released guide's own fill.sh prints them over the translation 79a4a499e1ad425c… (all of the seat's roots in one cut). By AI agents, Wed Nov 11 2026. No macro, syntax, notation, axiom, sorry.
-/
import Derived.Test.YtihkgphflgojeaaChecked
import GoSem.Claim
import GoSem.ClaimJoined
import GoSem.ClaimMapViews
import Derived.JoinedTies
import Derived.KernelRfl
namespace Go.Proofs.Ytihkgphflgojeaa
/- THE CELL 'sum', in the pinned program and in every row, IS THE sha256 OF THE DUMP (.gsa) THAT YtihkgphflgojeaaProg.lean LOADS. Nothing in Lean hashes anything: it is a label: what it is worth is what the hold of that sum in a sandbox is worth. -/
noncomputable def Try.pinned : Pinned := { name := "ytihkgphflgojeaa", sum := "79a4a499e1ad425c7f2cd06615bc879705ee041f56c0e86a3e19c15cdce4ceb6", checked := Try.checked }
namespace Rows
def none {H : Type} : Left H := { results := [], args := [] }

/-- 'pencilworkslaw04.DieWides': WHATEVER THE INPUT: true; the input reads as it did. -/
def dieWidesSpec : ChangeSpec := { name := "dieWides", fn := fun _ => fun
  | [d1, d2, d3, d4, d5, d6] => { results := [.lit (.bool true)], args := [d1, d2, d3, d4, d5, d6] }
  | _ => none }
def dieWidesRow : OpenClaim := { program := "ytihkgphflgojeaa", sum := "79a4a499e1ad425c7f2cd06615bc879705ee041f56c0e86a3e19c15cdce4ceb6", func := "pencilworks/pencilworkslaw04.DieWides", spec := "dieWides", unfollowed := true, recurses := true, plainKeys := false, apart := false }
def DieWidesSaid : Prop := dieWidesRow.holds Try.pinned (OpenSpec.ofChange dieWidesSpec)

/-- ITS FALSE NEIGHBOUR: 'it returns false'. Refute it at one input. -/
def dieWidesWrong : ChangeSpec := { name := "dieWides", fn := fun _ => fun
  | [d1, d2, d3, d4, d5, d6] => { results := [.lit (.bool false)], args := [d1, d2, d3, d4, d5, d6] }
  | _ => none }
def DieWidesWrongFalsely : Prop := dieWidesRow.holds Try.pinned (OpenSpec.ofChange dieWidesWrong)

/-- 'pencilworkslaw04.DiePlans': WHATEVER THE INPUT: true; the input reads as it did. -/
def diePlansSpec : ChangeSpec := { name := "diePlans", fn := fun _ => fun
  | [d1, d2] => { results := [.lit (.bool true)], args := [d1, d2] }
  | _ => none }
def diePlansRow : OpenClaim := { program := "ytihkgphflgojeaa", sum := "79a4a499e1ad425c7f2cd06615bc879705ee041f56c0e86a3e19c15cdce4ceb6", func := "pencilworks/pencilworkslaw04.DiePlans", spec := "diePlans", unfollowed := true, recurses := true, plainKeys := false, apart := false }
def DiePlansSaid : Prop := diePlansRow.holds Try.pinned (OpenSpec.ofChange diePlansSpec)

/-- ITS FALSE NEIGHBOUR: 'it returns false'. Refute it at one input. -/
def diePlansWrong : ChangeSpec := { name := "diePlans", fn := fun _ => fun
  | [d1, d2] => { results := [.lit (.bool false)], args := [d1, d2] }
  | _ => none }
def DiePlansWrongFalsely : Prop := diePlansRow.holds Try.pinned (OpenSpec.ofChange diePlansWrong)

/-- 'pencilworkslaw04.DieTrue': WHATEVER THE INPUT: true; the input reads as it did. -/
def dieTrueSpec : ChangeSpec := { name := "dieTrue", fn := fun _ => fun
  | [d1, d2, d3] => { results := [.lit (.bool true)], args := [d1, d2, d3] }
  | _ => none }
def dieTrueRow : OpenClaim := { program := "ytihkgphflgojeaa", sum := "79a4a499e1ad425c7f2cd06615bc879705ee041f56c0e86a3e19c15cdce4ceb6", func := "pencilworks/pencilworkslaw04.DieTrue", spec := "dieTrue", unfollowed := true, recurses := true, plainKeys := false, apart := false }
def DieTrueSaid : Prop := dieTrueRow.holds Try.pinned (OpenSpec.ofChange dieTrueSpec)

/-- ITS FALSE NEIGHBOUR: 'it returns false'. Refute it at one input. -/
def dieTrueWrong : ChangeSpec := { name := "dieTrue", fn := fun _ => fun
  | [d1, d2, d3] => { results := [.lit (.bool false)], args := [d1, d2, d3] }
  | _ => none }
def DieTrueWrongFalsely : Prop := dieTrueRow.holds Try.pinned (OpenSpec.ofChange dieTrueWrong)

/-- 'pencilworkslaw04.DieEnds': WHATEVER THE INPUT: true; the input reads as it did. -/
def dieEndsSpec : ChangeSpec := { name := "dieEnds", fn := fun _ => fun
  | [d1, d2, d3, d4, d5] => { results := [.lit (.bool true)], args := [d1, d2, d3, d4, d5] }
  | _ => none }
def dieEndsRow : OpenClaim := { program := "ytihkgphflgojeaa", sum := "79a4a499e1ad425c7f2cd06615bc879705ee041f56c0e86a3e19c15cdce4ceb6", func := "pencilworks/pencilworkslaw04.DieEnds", spec := "dieEnds", unfollowed := true, recurses := true, plainKeys := false, apart := false }
def DieEndsSaid : Prop := dieEndsRow.holds Try.pinned (OpenSpec.ofChange dieEndsSpec)

/-- ITS FALSE NEIGHBOUR: 'it returns false'. Refute it at one input. -/
def dieEndsWrong : ChangeSpec := { name := "dieEnds", fn := fun _ => fun
  | [d1, d2, d3, d4, d5] => { results := [.lit (.bool false)], args := [d1, d2, d3, d4, d5] }
  | _ => none }
def DieEndsWrongFalsely : Prop := dieEndsRow.holds Try.pinned (OpenSpec.ofChange dieEndsWrong)

/-- 'pencilworkslaw04.DieBest': WHATEVER THE INPUT: true; the input reads as it did. -/
def dieBestSpec : ChangeSpec := { name := "dieBest", fn := fun _ => fun
  | [d1, d2, d3] => { results := [.lit (.bool true)], args := [d1, d2, d3] }
  | _ => none }
def dieBestRow : OpenClaim := { program := "ytihkgphflgojeaa", sum := "79a4a499e1ad425c7f2cd06615bc879705ee041f56c0e86a3e19c15cdce4ceb6", func := "pencilworks/pencilworkslaw04.DieBest", spec := "dieBest", unfollowed := true, recurses := true, plainKeys := false, apart := false }
def DieBestSaid : Prop := dieBestRow.holds Try.pinned (OpenSpec.ofChange dieBestSpec)

/-- ITS FALSE NEIGHBOUR: 'it returns false'. Refute it at one input. -/
def dieBestWrong : ChangeSpec := { name := "dieBest", fn := fun _ => fun
  | [d1, d2, d3] => { results := [.lit (.bool false)], args := [d1, d2, d3] }
  | _ => none }
def DieBestWrongFalsely : Prop := dieBestRow.holds Try.pinned (OpenSpec.ofChange dieBestWrong)

/-- 'pencilworkslaw04.DieMore': WHATEVER THE INPUT: true; the input reads as it did. -/
def dieMoreSpec : ChangeSpec := { name := "dieMore", fn := fun _ => fun
  | [d1, d2, d3, d4, d5] => { results := [.lit (.bool true)], args := [d1, d2, d3, d4, d5] }
  | _ => none }
def dieMoreRow : OpenClaim := { program := "ytihkgphflgojeaa", sum := "79a4a499e1ad425c7f2cd06615bc879705ee041f56c0e86a3e19c15cdce4ceb6", func := "pencilworks/pencilworkslaw04.DieMore", spec := "dieMore", unfollowed := true, recurses := true, plainKeys := false, apart := false }
def DieMoreSaid : Prop := dieMoreRow.holds Try.pinned (OpenSpec.ofChange dieMoreSpec)

/-- ITS FALSE NEIGHBOUR: 'it returns false'. Refute it at one input. -/
def dieMoreWrong : ChangeSpec := { name := "dieMore", fn := fun _ => fun
  | [d1, d2, d3, d4, d5] => { results := [.lit (.bool false)], args := [d1, d2, d3, d4, d5] }
  | _ => none }
def DieMoreWrongFalsely : Prop := dieMoreRow.holds Try.pinned (OpenSpec.ofChange dieMoreWrong)

/- THE SECOND FORM. 'bulk': how many values and letters a reading holds, each counted each time it is reached (what is shared counts as often as it is met; a slice's spare places count too). A statement '..UptoSaid' is the law's where the arguments, and the package variables that the reading takes, are together of bulk at most 1048576: NARROWER than '..Said'. Prove '..Said' where nothing that the law and all that it calls make is longer than what came in: it says more and counts as full. Else prove '..UptoSaid'. A law counts once. -/
mutual
def uptoBulk {H : Type} : DataW H → Nat
  | .lit (.string bytes) => bytes.length + 1
  | .lit _ => 1
  | .nil => 1
  | .ptr d => uptoBulk d + 1
  | .slice elems spare => uptoBulkAll elems + uptoBulkAll spare + 1
  | .agg parts => uptoBulkAll parts + 1
  | .iface _ d => uptoBulk d + 1
  | .map entries => uptoBulkEntries entries + 1
  | .held _ => 1
def uptoBulkAll {H : Type} : List (DataW H) → Nat
  | [] => 0
  | d :: r => uptoBulk d + uptoBulkAll r
def uptoBulkEntries {H : Type} : List (Lit × DataW H) → Nat
  | [] => 0
  | x :: r => uptoBulkEntry x + uptoBulkEntries r
def uptoBulkEntry {H : Type} : Lit × DataW H → Nat
  | (.string bytes, d) => bytes.length + uptoBulk d + 1
  | (_, d) => uptoBulk d + 1
 end
def uptoSmall : (H : Type) → List (DataW H) → Bool := fun _ ds => decide (uptoBulkAll ds ≤ 1048576)
def OpenSpec.upto (s : _root_.Go.ChangeSpec) : _root_.Go.OpenSpec := { _root_.Go.OpenSpec.ofChange s with cond := some uptoSmall }

/-- 'pencilworkslaw04.DieWides', WHERE WHAT IT READS IS OF BULK AT MOST 1048576: true; the input reads as it did. -/
def dieWidesUptoRow : OpenClaim := { program := "ytihkgphflgojeaa", sum := "79a4a499e1ad425c7f2cd06615bc879705ee041f56c0e86a3e19c15cdce4ceb6", func := "pencilworks/pencilworkslaw04.DieWides", spec := "dieWides", unfollowed := true, recurses := true, plainKeys := false, apart := false, narrowed := true }
def DieWidesUptoSaid : Prop := dieWidesUptoRow.holds Try.pinned (OpenSpec.upto dieWidesSpec)

/-- 'pencilworkslaw04.DiePlans', WHERE WHAT IT READS IS OF BULK AT MOST 1048576: true; the input reads as it did. -/
def diePlansUptoRow : OpenClaim := { program := "ytihkgphflgojeaa", sum := "79a4a499e1ad425c7f2cd06615bc879705ee041f56c0e86a3e19c15cdce4ceb6", func := "pencilworks/pencilworkslaw04.DiePlans", spec := "diePlans", unfollowed := true, recurses := true, plainKeys := false, apart := false, narrowed := true }
def DiePlansUptoSaid : Prop := diePlansUptoRow.holds Try.pinned (OpenSpec.upto diePlansSpec)

/-- 'pencilworkslaw04.DieTrue', WHERE WHAT IT READS IS OF BULK AT MOST 1048576: true; the input reads as it did. -/
def dieTrueUptoRow : OpenClaim := { program := "ytihkgphflgojeaa", sum := "79a4a499e1ad425c7f2cd06615bc879705ee041f56c0e86a3e19c15cdce4ceb6", func := "pencilworks/pencilworkslaw04.DieTrue", spec := "dieTrue", unfollowed := true, recurses := true, plainKeys := false, apart := false, narrowed := true }
def DieTrueUptoSaid : Prop := dieTrueUptoRow.holds Try.pinned (OpenSpec.upto dieTrueSpec)

/-- 'pencilworkslaw04.DieEnds', WHERE WHAT IT READS IS OF BULK AT MOST 1048576: true; the input reads as it did. -/
def dieEndsUptoRow : OpenClaim := { program := "ytihkgphflgojeaa", sum := "79a4a499e1ad425c7f2cd06615bc879705ee041f56c0e86a3e19c15cdce4ceb6", func := "pencilworks/pencilworkslaw04.DieEnds", spec := "dieEnds", unfollowed := true, recurses := true, plainKeys := false, apart := false, narrowed := true }
def DieEndsUptoSaid : Prop := dieEndsUptoRow.holds Try.pinned (OpenSpec.upto dieEndsSpec)

/-- 'pencilworkslaw04.DieBest', WHERE WHAT IT READS IS OF BULK AT MOST 1048576: true; the input reads as it did. -/
def dieBestUptoRow : OpenClaim := { program := "ytihkgphflgojeaa", sum := "79a4a499e1ad425c7f2cd06615bc879705ee041f56c0e86a3e19c15cdce4ceb6", func := "pencilworks/pencilworkslaw04.DieBest", spec := "dieBest", unfollowed := true, recurses := true, plainKeys := false, apart := false, narrowed := true }
def DieBestUptoSaid : Prop := dieBestUptoRow.holds Try.pinned (OpenSpec.upto dieBestSpec)

/-- 'pencilworkslaw04.DieMore', WHERE WHAT IT READS IS OF BULK AT MOST 1048576: true; the input reads as it did. -/
def dieMoreUptoRow : OpenClaim := { program := "ytihkgphflgojeaa", sum := "79a4a499e1ad425c7f2cd06615bc879705ee041f56c0e86a3e19c15cdce4ceb6", func := "pencilworks/pencilworkslaw04.DieMore", spec := "dieMore", unfollowed := true, recurses := true, plainKeys := false, apart := false, narrowed := true }
def DieMoreUptoSaid : Prop := dieMoreUptoRow.holds Try.pinned (OpenSpec.upto dieMoreSpec)

end Rows
end Go.Proofs.Ytihkgphflgojeaa
