/-
  No cell of these rows narrows 'for every input' (looked for: loops, veiled, ifaces, maps, wideKeys, modest, calm, conditions, laid).
  DERIVED. THE GIVEN ROWS OF THIS SEAT. 9 by the template 'for every input the law returns true; each argument reads behind the call as it read before'; 0 by the template 'total and deterministic' (their statements: YtjnnbmgodbhofaaTotals.lean).
  GIVEN WITH THE SEED: the statements are not yours to turn. If you find one false, say at which input.
  Laid BY PROGRAM, IN A SANDBOX (cutbox-rows.mjs): the forced cells as the released guide's own fill.sh prints them over the translation 4af192db3d974a77… (all of the seat's roots in one cut). By AI agents, Wed Nov 11 2026. No macro, syntax, notation, axiom, sorry.
-/
import Derived.Test.YtjnnbmgodbhofaaChecked
import GoSem.Claim
import GoSem.ClaimJoined
import GoSem.ClaimMapViews
import Derived.JoinedTies
import Derived.KernelRfl
namespace Go.Proofs.Ytjnnbmgodbhofaa
/- THE CELL 'sum', in the pinned program and in every row, IS THE sha256 OF THE DUMP (.gsa) THAT YtjnnbmgodbhofaaProg.lean LOADS. Nothing in Lean hashes anything: it is a label: what it is worth is what the hold of that sum in a sandbox is worth. -/
noncomputable def Try.pinned : Pinned := { name := "ytjnnbmgodbhofaa", sum := "4af192db3d974a7718d4ab7fb508c7f1dc5846f60e31ba774fa3e3751bc0e5b0", checked := Try.checked }
namespace Rows
def none {H : Type} : Left H := { results := [], args := [] }

/-- 'pencilworkslaw12.FadeSpans': WHATEVER THE INPUT: true; the input reads as it did. -/
def fadeSpansSpec : ChangeSpec := { name := "fadeSpans", fn := fun _ => fun
  | [d1, d2, d3, d4, d5] => { results := [.lit (.bool true)], args := [d1, d2, d3, d4, d5] }
  | _ => none }
def fadeSpansRow : OpenClaim := { program := "ytjnnbmgodbhofaa", sum := "4af192db3d974a7718d4ab7fb508c7f1dc5846f60e31ba774fa3e3751bc0e5b0", func := "pencilworks/pencilworkslaw12.FadeSpans", spec := "fadeSpans", unfollowed := true, recurses := true, apart := false }
def FadeSpansSaid : Prop := fadeSpansRow.holds Try.pinned (OpenSpec.ofChange fadeSpansSpec)

/-- ITS FALSE NEIGHBOUR: 'it returns false'. Refute it at one input. -/
def fadeSpansWrong : ChangeSpec := { name := "fadeSpans", fn := fun _ => fun
  | [d1, d2, d3, d4, d5] => { results := [.lit (.bool false)], args := [d1, d2, d3, d4, d5] }
  | _ => none }
def FadeSpansWrongFalsely : Prop := fadeSpansRow.holds Try.pinned (OpenSpec.ofChange fadeSpansWrong)

/-- 'pencilworkslaw12.FadeClashes': WHATEVER THE INPUT: true; the input reads as it did. -/
def fadeClashesSpec : ChangeSpec := { name := "fadeClashes", fn := fun _ => fun
  | [d1, d2, d3] => { results := [.lit (.bool true)], args := [d1, d2, d3] }
  | _ => none }
def fadeClashesRow : OpenClaim := { program := "ytjnnbmgodbhofaa", sum := "4af192db3d974a7718d4ab7fb508c7f1dc5846f60e31ba774fa3e3751bc0e5b0", func := "pencilworks/pencilworkslaw12.FadeClashes", spec := "fadeClashes", unfollowed := true, recurses := true, apart := false }
def FadeClashesSaid : Prop := fadeClashesRow.holds Try.pinned (OpenSpec.ofChange fadeClashesSpec)

/-- ITS FALSE NEIGHBOUR: 'it returns false'. Refute it at one input. -/
def fadeClashesWrong : ChangeSpec := { name := "fadeClashes", fn := fun _ => fun
  | [d1, d2, d3] => { results := [.lit (.bool false)], args := [d1, d2, d3] }
  | _ => none }
def FadeClashesWrongFalsely : Prop := fadeClashesRow.holds Try.pinned (OpenSpec.ofChange fadeClashesWrong)

/-- 'pencilworkslaw12.FadeNames': WHATEVER THE INPUT: true; the input reads as it did. -/
def fadeNamesSpec : ChangeSpec := { name := "fadeNames", fn := fun _ => fun
  | [] => { results := [.lit (.bool true)], args := [] }
  | _ => none }
def fadeNamesRow : OpenClaim := { program := "ytjnnbmgodbhofaa", sum := "4af192db3d974a7718d4ab7fb508c7f1dc5846f60e31ba774fa3e3751bc0e5b0", func := "pencilworks/pencilworkslaw12.FadeNames", spec := "fadeNames", unfollowed := true, recurses := true, apart := false }
def FadeNamesSaid : Prop := fadeNamesRow.holds Try.pinned (OpenSpec.ofChange fadeNamesSpec)

/-- ITS FALSE NEIGHBOUR: 'it returns false'. Refute it at one input. -/
def fadeNamesWrong : ChangeSpec := { name := "fadeNames", fn := fun _ => fun
  | [] => { results := [.lit (.bool false)], args := [] }
  | _ => none }
def FadeNamesWrongFalsely : Prop := fadeNamesRow.holds Try.pinned (OpenSpec.ofChange fadeNamesWrong)

/-- 'pencilworkslaw12.FadeTrue': WHATEVER THE INPUT: true; the input reads as it did. -/
def fadeTrueSpec : ChangeSpec := { name := "fadeTrue", fn := fun _ => fun
  | [d1, d2, d3, d4, d5] => { results := [.lit (.bool true)], args := [d1, d2, d3, d4, d5] }
  | _ => none }
def fadeTrueRow : OpenClaim := { program := "ytjnnbmgodbhofaa", sum := "4af192db3d974a7718d4ab7fb508c7f1dc5846f60e31ba774fa3e3751bc0e5b0", func := "pencilworks/pencilworkslaw12.FadeTrue", spec := "fadeTrue", unfollowed := true, recurses := true, apart := false }
def FadeTrueSaid : Prop := fadeTrueRow.holds Try.pinned (OpenSpec.ofChange fadeTrueSpec)

/-- ITS FALSE NEIGHBOUR: 'it returns false'. Refute it at one input. -/
def fadeTrueWrong : ChangeSpec := { name := "fadeTrue", fn := fun _ => fun
  | [d1, d2, d3, d4, d5] => { results := [.lit (.bool false)], args := [d1, d2, d3, d4, d5] }
  | _ => none }
def FadeTrueWrongFalsely : Prop := fadeTrueRow.holds Try.pinned (OpenSpec.ofChange fadeTrueWrong)

/-- 'pencilworkslaw12.FadeEnds': WHATEVER THE INPUT: true; the input reads as it did. -/
def fadeEndsSpec : ChangeSpec := { name := "fadeEnds", fn := fun _ => fun
  | [d1, d2, d3, d4] => { results := [.lit (.bool true)], args := [d1, d2, d3, d4] }
  | _ => none }
def fadeEndsRow : OpenClaim := { program := "ytjnnbmgodbhofaa", sum := "4af192db3d974a7718d4ab7fb508c7f1dc5846f60e31ba774fa3e3751bc0e5b0", func := "pencilworks/pencilworkslaw12.FadeEnds", spec := "fadeEnds", unfollowed := true, recurses := true, apart := false }
def FadeEndsSaid : Prop := fadeEndsRow.holds Try.pinned (OpenSpec.ofChange fadeEndsSpec)

/-- ITS FALSE NEIGHBOUR: 'it returns false'. Refute it at one input. -/
def fadeEndsWrong : ChangeSpec := { name := "fadeEnds", fn := fun _ => fun
  | [d1, d2, d3, d4] => { results := [.lit (.bool false)], args := [d1, d2, d3, d4] }
  | _ => none }
def FadeEndsWrongFalsely : Prop := fadeEndsRow.holds Try.pinned (OpenSpec.ofChange fadeEndsWrong)

/-- 'pencilworkslaw12.FadeGrades': WHATEVER THE INPUT: true; the input reads as it did. -/
def fadeGradesSpec : ChangeSpec := { name := "fadeGrades", fn := fun _ => fun
  | [d1, d2] => { results := [.lit (.bool true)], args := [d1, d2] }
  | _ => none }
def fadeGradesRow : OpenClaim := { program := "ytjnnbmgodbhofaa", sum := "4af192db3d974a7718d4ab7fb508c7f1dc5846f60e31ba774fa3e3751bc0e5b0", func := "pencilworks/pencilworkslaw12.FadeGrades", spec := "fadeGrades", unfollowed := true, recurses := true, apart := false }
def FadeGradesSaid : Prop := fadeGradesRow.holds Try.pinned (OpenSpec.ofChange fadeGradesSpec)

/-- ITS FALSE NEIGHBOUR: 'it returns false'. Refute it at one input. -/
def fadeGradesWrong : ChangeSpec := { name := "fadeGrades", fn := fun _ => fun
  | [d1, d2] => { results := [.lit (.bool false)], args := [d1, d2] }
  | _ => none }
def FadeGradesWrongFalsely : Prop := fadeGradesRow.holds Try.pinned (OpenSpec.ofChange fadeGradesWrong)

/-- 'pencilworkslaw12.FadeClash': WHATEVER THE INPUT: true; the input reads as it did. -/
def fadeClashSpec : ChangeSpec := { name := "fadeClash", fn := fun _ => fun
  | [d1, d2] => { results := [.lit (.bool true)], args := [d1, d2] }
  | _ => none }
def fadeClashRow : OpenClaim := { program := "ytjnnbmgodbhofaa", sum := "4af192db3d974a7718d4ab7fb508c7f1dc5846f60e31ba774fa3e3751bc0e5b0", func := "pencilworks/pencilworkslaw12.FadeClash", spec := "fadeClash", unfollowed := true, recurses := true, apart := false }
def FadeClashSaid : Prop := fadeClashRow.holds Try.pinned (OpenSpec.ofChange fadeClashSpec)

/-- ITS FALSE NEIGHBOUR: 'it returns false'. Refute it at one input. -/
def fadeClashWrong : ChangeSpec := { name := "fadeClash", fn := fun _ => fun
  | [d1, d2] => { results := [.lit (.bool false)], args := [d1, d2] }
  | _ => none }
def FadeClashWrongFalsely : Prop := fadeClashRow.holds Try.pinned (OpenSpec.ofChange fadeClashWrong)

/-- 'pencilworkslaw12.FadeMore': WHATEVER THE INPUT: true; the input reads as it did. -/
def fadeMoreSpec : ChangeSpec := { name := "fadeMore", fn := fun _ => fun
  | [d1, d2, d3, d4, d5, d6, d7] => { results := [.lit (.bool true)], args := [d1, d2, d3, d4, d5, d6, d7] }
  | _ => none }
def fadeMoreRow : OpenClaim := { program := "ytjnnbmgodbhofaa", sum := "4af192db3d974a7718d4ab7fb508c7f1dc5846f60e31ba774fa3e3751bc0e5b0", func := "pencilworks/pencilworkslaw12.FadeMore", spec := "fadeMore", unfollowed := true, recurses := true, apart := false }
def FadeMoreSaid : Prop := fadeMoreRow.holds Try.pinned (OpenSpec.ofChange fadeMoreSpec)

/-- ITS FALSE NEIGHBOUR: 'it returns false'. Refute it at one input. -/
def fadeMoreWrong : ChangeSpec := { name := "fadeMore", fn := fun _ => fun
  | [d1, d2, d3, d4, d5, d6, d7] => { results := [.lit (.bool false)], args := [d1, d2, d3, d4, d5, d6, d7] }
  | _ => none }
def FadeMoreWrongFalsely : Prop := fadeMoreRow.holds Try.pinned (OpenSpec.ofChange fadeMoreWrong)

/-- 'pencilworkslaw12.FadeOwns': WHATEVER THE INPUT: true; the input reads as it did. -/
def fadeOwnsSpec : ChangeSpec := { name := "fadeOwns", fn := fun _ => fun
  | [d1, d2] => { results := [.lit (.bool true)], args := [d1, d2] }
  | _ => none }
def fadeOwnsRow : OpenClaim := { program := "ytjnnbmgodbhofaa", sum := "4af192db3d974a7718d4ab7fb508c7f1dc5846f60e31ba774fa3e3751bc0e5b0", func := "pencilworks/pencilworkslaw12.FadeOwns", spec := "fadeOwns", unfollowed := true, recurses := true, apart := false }
def FadeOwnsSaid : Prop := fadeOwnsRow.holds Try.pinned (OpenSpec.ofChange fadeOwnsSpec)

/-- ITS FALSE NEIGHBOUR: 'it returns false'. Refute it at one input. -/
def fadeOwnsWrong : ChangeSpec := { name := "fadeOwns", fn := fun _ => fun
  | [d1, d2] => { results := [.lit (.bool false)], args := [d1, d2] }
  | _ => none }
def FadeOwnsWrongFalsely : Prop := fadeOwnsRow.holds Try.pinned (OpenSpec.ofChange fadeOwnsWrong)

/- THE SECOND FORM. 'bulk': how many values and letters a reading holds, each counted each time it is reached (what is shared counts as often as it is met; a slice's spare places count too). A statement '..UptoSaid' is the law's where the arguments, and the package variables that the reading takes, are together of bulk at most 1048576: NARROWER than '..Said'. Prove '..Said' where nothing that the law and all that it calls make is longer than what came in: it says more and counts as full. Else prove '..UptoSaid'. A law counts once. -/
mutual
def uptoBulk {H : Type} : DataW H → Nat
  | .lit (.string bytes) => bytes.length + 1
  | .lit _ => 1
  | .nil => 1
  | .ptr d => uptoBulk d + 1
  | .slice elems spare => uptoBulkAll elems + uptoBulkAll spare + 1
  | .agg parts => uptoBulkAll parts + 1
  | .iface _ d => uptoBulk d + 1
  | .map entries => uptoBulkEntries entries + 1
  | .held _ => 1
def uptoBulkAll {H : Type} : List (DataW H) → Nat
  | [] => 0
  | d :: r => uptoBulk d + uptoBulkAll r
def uptoBulkEntries {H : Type} : List (Lit × DataW H) → Nat
  | [] => 0
  | x :: r => uptoBulkEntry x + uptoBulkEntries r
def uptoBulkEntry {H : Type} : Lit × DataW H → Nat
  | (.string bytes, d) => bytes.length + uptoBulk d + 1
  | (_, d) => uptoBulk d + 1
 end
def uptoSmall : (H : Type) → List (DataW H) → Bool := fun _ ds => decide (uptoBulkAll ds ≤ 1048576)
def OpenSpec.upto (s : _root_.Go.ChangeSpec) : _root_.Go.OpenSpec := { _root_.Go.OpenSpec.ofChange s with cond := some uptoSmall }

/-- 'pencilworkslaw12.FadeSpans', WHERE WHAT IT READS IS OF BULK AT MOST 1048576: true; the input reads as it did. -/
def fadeSpansUptoRow : OpenClaim := { program := "ytjnnbmgodbhofaa", sum := "4af192db3d974a7718d4ab7fb508c7f1dc5846f60e31ba774fa3e3751bc0e5b0", func := "pencilworks/pencilworkslaw12.FadeSpans", spec := "fadeSpans", unfollowed := true, recurses := true, apart := false, narrowed := true }
def FadeSpansUptoSaid : Prop := fadeSpansUptoRow.holds Try.pinned (OpenSpec.upto fadeSpansSpec)

/-- 'pencilworkslaw12.FadeClashes', WHERE WHAT IT READS IS OF BULK AT MOST 1048576: true; the input reads as it did. -/
def fadeClashesUptoRow : OpenClaim := { program := "ytjnnbmgodbhofaa", sum := "4af192db3d974a7718d4ab7fb508c7f1dc5846f60e31ba774fa3e3751bc0e5b0", func := "pencilworks/pencilworkslaw12.FadeClashes", spec := "fadeClashes", unfollowed := true, recurses := true, apart := false, narrowed := true }
def FadeClashesUptoSaid : Prop := fadeClashesUptoRow.holds Try.pinned (OpenSpec.upto fadeClashesSpec)

/-- 'pencilworkslaw12.FadeNames', WHERE WHAT IT READS IS OF BULK AT MOST 1048576: true; the input reads as it did. -/
def fadeNamesUptoRow : OpenClaim := { program := "ytjnnbmgodbhofaa", sum := "4af192db3d974a7718d4ab7fb508c7f1dc5846f60e31ba774fa3e3751bc0e5b0", func := "pencilworks/pencilworkslaw12.FadeNames", spec := "fadeNames", unfollowed := true, recurses := true, apart := false, narrowed := true }
def FadeNamesUptoSaid : Prop := fadeNamesUptoRow.holds Try.pinned (OpenSpec.upto fadeNamesSpec)

/-- 'pencilworkslaw12.FadeTrue', WHERE WHAT IT READS IS OF BULK AT MOST 1048576: true; the input reads as it did. -/
def fadeTrueUptoRow : OpenClaim := { program := "ytjnnbmgodbhofaa", sum := "4af192db3d974a7718d4ab7fb508c7f1dc5846f60e31ba774fa3e3751bc0e5b0", func := "pencilworks/pencilworkslaw12.FadeTrue", spec := "fadeTrue", unfollowed := true, recurses := true, apart := false, narrowed := true }
def FadeTrueUptoSaid : Prop := fadeTrueUptoRow.holds Try.pinned (OpenSpec.upto fadeTrueSpec)

/-- 'pencilworkslaw12.FadeEnds', WHERE WHAT IT READS IS OF BULK AT MOST 1048576: true; the input reads as it did. -/
def fadeEndsUptoRow : OpenClaim := { program := "ytjnnbmgodbhofaa", sum := "4af192db3d974a7718d4ab7fb508c7f1dc5846f60e31ba774fa3e3751bc0e5b0", func := "pencilworks/pencilworkslaw12.FadeEnds", spec := "fadeEnds", unfollowed := true, recurses := true, apart := false, narrowed := true }
def FadeEndsUptoSaid : Prop := fadeEndsUptoRow.holds Try.pinned (OpenSpec.upto fadeEndsSpec)

/-- 'pencilworkslaw12.FadeGrades', WHERE WHAT IT READS IS OF BULK AT MOST 1048576: true; the input reads as it did. -/
def fadeGradesUptoRow : OpenClaim := { program := "ytjnnbmgodbhofaa", sum := "4af192db3d974a7718d4ab7fb508c7f1dc5846f60e31ba774fa3e3751bc0e5b0", func := "pencilworks/pencilworkslaw12.FadeGrades", spec := "fadeGrades", unfollowed := true, recurses := true, apart := false, narrowed := true }
def FadeGradesUptoSaid : Prop := fadeGradesUptoRow.holds Try.pinned (OpenSpec.upto fadeGradesSpec)

/-- 'pencilworkslaw12.FadeClash', WHERE WHAT IT READS IS OF BULK AT MOST 1048576: true; the input reads as it did. -/
def fadeClashUptoRow : OpenClaim := { program := "ytjnnbmgodbhofaa", sum := "4af192db3d974a7718d4ab7fb508c7f1dc5846f60e31ba774fa3e3751bc0e5b0", func := "pencilworks/pencilworkslaw12.FadeClash", spec := "fadeClash", unfollowed := true, recurses := true, apart := false, narrowed := true }
def FadeClashUptoSaid : Prop := fadeClashUptoRow.holds Try.pinned (OpenSpec.upto fadeClashSpec)

/-- 'pencilworkslaw12.FadeMore', WHERE WHAT IT READS IS OF BULK AT MOST 1048576: true; the input reads as it did. -/
def fadeMoreUptoRow : OpenClaim := { program := "ytjnnbmgodbhofaa", sum := "4af192db3d974a7718d4ab7fb508c7f1dc5846f60e31ba774fa3e3751bc0e5b0", func := "pencilworks/pencilworkslaw12.FadeMore", spec := "fadeMore", unfollowed := true, recurses := true, apart := false, narrowed := true }
def FadeMoreUptoSaid : Prop := fadeMoreUptoRow.holds Try.pinned (OpenSpec.upto fadeMoreSpec)

/-- 'pencilworkslaw12.FadeOwns', WHERE WHAT IT READS IS OF BULK AT MOST 1048576: true; the input reads as it did. -/
def fadeOwnsUptoRow : OpenClaim := { program := "ytjnnbmgodbhofaa", sum := "4af192db3d974a7718d4ab7fb508c7f1dc5846f60e31ba774fa3e3751bc0e5b0", func := "pencilworks/pencilworkslaw12.FadeOwns", spec := "fadeOwns", unfollowed := true, recurses := true, apart := false, narrowed := true }
def FadeOwnsUptoSaid : Prop := fadeOwnsUptoRow.holds Try.pinned (OpenSpec.upto fadeOwnsSpec)

end Rows
end Go.Proofs.Ytjnnbmgodbhofaa
