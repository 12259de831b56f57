/-
  No cell of these rows narrows 'for every input' (looked for: loops, veiled, ifaces, maps, wideKeys, modest, calm, conditions, laid).
  DERIVED. THE GIVEN ROWS OF THIS SEAT. 7 by the template 'for every input the law returns true; each argument reads behind the call as it read before'; 0 by the template 'total and deterministic' (their statements: YtlkegffejcndbaaTotals.lean).
  GIVEN WITH THE SEED: the statements are not yours to turn. If you find one false, say at which input.
  Laid BY PROGRAM, IN A SANDBOX (cutbox-rows.mjs): the forced cells as the released guide's own fill.sh prints them over the translation 1f481edbecee8f29… (all of the seat's roots in one cut). By AI agents, Wed Nov 11 2026. No macro, syntax, notation, axiom, sorry.
-/
import Derived.Test.YtlkegffejcndbaaChecked
import GoSem.Claim
import GoSem.ClaimJoined
import GoSem.ClaimMapViews
import Derived.JoinedTies
import Derived.KernelRfl
namespace Go.Proofs.Ytlkegffejcndbaa
/- THE CELL 'sum', in the pinned program and in every row, IS THE sha256 OF THE DUMP (.gsa) THAT YtlkegffejcndbaaProg.lean LOADS. Nothing in Lean hashes anything: it is a label: what it is worth is what the hold of that sum in a sandbox is worth. -/
noncomputable def Try.pinned : Pinned := { name := "ytlkegffejcndbaa", sum := "1f481edbecee8f29fcdcd7ac7c2f9f4b0812c87e2fa4dacaf00d8fe2aac5b585", checked := Try.checked }
namespace Rows
def none {H : Type} : Left H := { results := [], args := [] }

/-- 'pencilworkslaw08.HueStains': WHATEVER THE INPUT: true; the input reads as it did. -/
def hueStainsSpec : ChangeSpec := { name := "hueStains", fn := fun _ => fun
  | [d1, d2, d3, d4, d5] => { results := [.lit (.bool true)], args := [d1, d2, d3, d4, d5] }
  | _ => none }
def hueStainsRow : OpenClaim := { program := "ytlkegffejcndbaa", sum := "1f481edbecee8f29fcdcd7ac7c2f9f4b0812c87e2fa4dacaf00d8fe2aac5b585", func := "pencilworks/pencilworkslaw08.HueStains", spec := "hueStains", unfollowed := true, recurses := true, plainKeys := false, apart := false }
def HueStainsSaid : Prop := hueStainsRow.holds Try.pinned (OpenSpec.ofChange hueStainsSpec)

/-- ITS FALSE NEIGHBOUR: 'it returns false'. Refute it at one input. -/
def hueStainsWrong : ChangeSpec := { name := "hueStains", fn := fun _ => fun
  | [d1, d2, d3, d4, d5] => { results := [.lit (.bool false)], args := [d1, d2, d3, d4, d5] }
  | _ => none }
def HueStainsWrongFalsely : Prop := hueStainsRow.holds Try.pinned (OpenSpec.ofChange hueStainsWrong)

/-- 'pencilworkslaw08.HueBests': WHATEVER THE INPUT: true; the input reads as it did. -/
def hueBestsSpec : ChangeSpec := { name := "hueBests", fn := fun _ => fun
  | [d1, d2] => { results := [.lit (.bool true)], args := [d1, d2] }
  | _ => none }
def hueBestsRow : OpenClaim := { program := "ytlkegffejcndbaa", sum := "1f481edbecee8f29fcdcd7ac7c2f9f4b0812c87e2fa4dacaf00d8fe2aac5b585", func := "pencilworks/pencilworkslaw08.HueBests", spec := "hueBests", unfollowed := true, recurses := true, plainKeys := false, apart := false }
def HueBestsSaid : Prop := hueBestsRow.holds Try.pinned (OpenSpec.ofChange hueBestsSpec)

/-- ITS FALSE NEIGHBOUR: 'it returns false'. Refute it at one input. -/
def hueBestsWrong : ChangeSpec := { name := "hueBests", fn := fun _ => fun
  | [d1, d2] => { results := [.lit (.bool false)], args := [d1, d2] }
  | _ => none }
def HueBestsWrongFalsely : Prop := hueBestsRow.holds Try.pinned (OpenSpec.ofChange hueBestsWrong)

/-- 'pencilworkslaw08.HueTrue': WHATEVER THE INPUT: true; the input reads as it did. -/
def hueTrueSpec : ChangeSpec := { name := "hueTrue", fn := fun _ => fun
  | [d1, d2, d3, d4] => { results := [.lit (.bool true)], args := [d1, d2, d3, d4] }
  | _ => none }
def hueTrueRow : OpenClaim := { program := "ytlkegffejcndbaa", sum := "1f481edbecee8f29fcdcd7ac7c2f9f4b0812c87e2fa4dacaf00d8fe2aac5b585", func := "pencilworks/pencilworkslaw08.HueTrue", spec := "hueTrue", unfollowed := true, recurses := true, plainKeys := false, apart := false }
def HueTrueSaid : Prop := hueTrueRow.holds Try.pinned (OpenSpec.ofChange hueTrueSpec)

/-- ITS FALSE NEIGHBOUR: 'it returns false'. Refute it at one input. -/
def hueTrueWrong : ChangeSpec := { name := "hueTrue", fn := fun _ => fun
  | [d1, d2, d3, d4] => { results := [.lit (.bool false)], args := [d1, d2, d3, d4] }
  | _ => none }
def HueTrueWrongFalsely : Prop := hueTrueRow.holds Try.pinned (OpenSpec.ofChange hueTrueWrong)

/-- 'pencilworkslaw08.HueEnds': WHATEVER THE INPUT: true; the input reads as it did. -/
def hueEndsSpec : ChangeSpec := { name := "hueEnds", fn := fun _ => fun
  | [d1, d2, d3, d4] => { results := [.lit (.bool true)], args := [d1, d2, d3, d4] }
  | _ => none }
def hueEndsRow : OpenClaim := { program := "ytlkegffejcndbaa", sum := "1f481edbecee8f29fcdcd7ac7c2f9f4b0812c87e2fa4dacaf00d8fe2aac5b585", func := "pencilworks/pencilworkslaw08.HueEnds", spec := "hueEnds", unfollowed := true, recurses := true, plainKeys := false, apart := false }
def HueEndsSaid : Prop := hueEndsRow.holds Try.pinned (OpenSpec.ofChange hueEndsSpec)

/-- ITS FALSE NEIGHBOUR: 'it returns false'. Refute it at one input. -/
def hueEndsWrong : ChangeSpec := { name := "hueEnds", fn := fun _ => fun
  | [d1, d2, d3, d4] => { results := [.lit (.bool false)], args := [d1, d2, d3, d4] }
  | _ => none }
def HueEndsWrongFalsely : Prop := hueEndsRow.holds Try.pinned (OpenSpec.ofChange hueEndsWrong)

/-- 'pencilworkslaw08.HueWash': WHATEVER THE INPUT: true; the input reads as it did. -/
def hueWashSpec : ChangeSpec := { name := "hueWash", fn := fun _ => fun
  | [d1, d2, d3, d4] => { results := [.lit (.bool true)], args := [d1, d2, d3, d4] }
  | _ => none }
def hueWashRow : OpenClaim := { program := "ytlkegffejcndbaa", sum := "1f481edbecee8f29fcdcd7ac7c2f9f4b0812c87e2fa4dacaf00d8fe2aac5b585", func := "pencilworks/pencilworkslaw08.HueWash", spec := "hueWash", unfollowed := true, recurses := true, plainKeys := false, apart := false }
def HueWashSaid : Prop := hueWashRow.holds Try.pinned (OpenSpec.ofChange hueWashSpec)

/-- ITS FALSE NEIGHBOUR: 'it returns false'. Refute it at one input. -/
def hueWashWrong : ChangeSpec := { name := "hueWash", fn := fun _ => fun
  | [d1, d2, d3, d4] => { results := [.lit (.bool false)], args := [d1, d2, d3, d4] }
  | _ => none }
def HueWashWrongFalsely : Prop := hueWashRow.holds Try.pinned (OpenSpec.ofChange hueWashWrong)

/-- 'pencilworkslaw08.HueBest': WHATEVER THE INPUT: true; the input reads as it did. -/
def hueBestSpec : ChangeSpec := { name := "hueBest", fn := fun _ => fun
  | [d1, d2, d3] => { results := [.lit (.bool true)], args := [d1, d2, d3] }
  | _ => none }
def hueBestRow : OpenClaim := { program := "ytlkegffejcndbaa", sum := "1f481edbecee8f29fcdcd7ac7c2f9f4b0812c87e2fa4dacaf00d8fe2aac5b585", func := "pencilworks/pencilworkslaw08.HueBest", spec := "hueBest", unfollowed := true, recurses := true, plainKeys := false, apart := false }
def HueBestSaid : Prop := hueBestRow.holds Try.pinned (OpenSpec.ofChange hueBestSpec)

/-- ITS FALSE NEIGHBOUR: 'it returns false'. Refute it at one input. -/
def hueBestWrong : ChangeSpec := { name := "hueBest", fn := fun _ => fun
  | [d1, d2, d3] => { results := [.lit (.bool false)], args := [d1, d2, d3] }
  | _ => none }
def HueBestWrongFalsely : Prop := hueBestRow.holds Try.pinned (OpenSpec.ofChange hueBestWrong)

/-- 'pencilworkslaw08.HueMore': WHATEVER THE INPUT: true; the input reads as it did. -/
def hueMoreSpec : ChangeSpec := { name := "hueMore", fn := fun _ => fun
  | [d1, d2, d3, d4, d5] => { results := [.lit (.bool true)], args := [d1, d2, d3, d4, d5] }
  | _ => none }
def hueMoreRow : OpenClaim := { program := "ytlkegffejcndbaa", sum := "1f481edbecee8f29fcdcd7ac7c2f9f4b0812c87e2fa4dacaf00d8fe2aac5b585", func := "pencilworks/pencilworkslaw08.HueMore", spec := "hueMore", unfollowed := true, recurses := true, plainKeys := false, apart := false }
def HueMoreSaid : Prop := hueMoreRow.holds Try.pinned (OpenSpec.ofChange hueMoreSpec)

/-- ITS FALSE NEIGHBOUR: 'it returns false'. Refute it at one input. -/
def hueMoreWrong : ChangeSpec := { name := "hueMore", fn := fun _ => fun
  | [d1, d2, d3, d4, d5] => { results := [.lit (.bool false)], args := [d1, d2, d3, d4, d5] }
  | _ => none }
def HueMoreWrongFalsely : Prop := hueMoreRow.holds Try.pinned (OpenSpec.ofChange hueMoreWrong)

/- THE SECOND FORM. 'bulk': how many values and letters a reading holds, each counted each time it is reached (what is shared counts as often as it is met; a slice's spare places count too). A statement '..UptoSaid' is the law's where the arguments, and the package variables that the reading takes, are together of bulk at most 1048576: NARROWER than '..Said'. Prove '..Said' where nothing that the law and all that it calls make is longer than what came in: it says more and counts as full. Else prove '..UptoSaid'. A law counts once. -/
mutual
def uptoBulk {H : Type} : DataW H → Nat
  | .lit (.string bytes) => bytes.length + 1
  | .lit _ => 1
  | .nil => 1
  | .ptr d => uptoBulk d + 1
  | .slice elems spare => uptoBulkAll elems + uptoBulkAll spare + 1
  | .agg parts => uptoBulkAll parts + 1
  | .iface _ d => uptoBulk d + 1
  | .map entries => uptoBulkEntries entries + 1
  | .held _ => 1
def uptoBulkAll {H : Type} : List (DataW H) → Nat
  | [] => 0
  | d :: r => uptoBulk d + uptoBulkAll r
def uptoBulkEntries {H : Type} : List (Lit × DataW H) → Nat
  | [] => 0
  | x :: r => uptoBulkEntry x + uptoBulkEntries r
def uptoBulkEntry {H : Type} : Lit × DataW H → Nat
  | (.string bytes, d) => bytes.length + uptoBulk d + 1
  | (_, d) => uptoBulk d + 1
 end
def uptoSmall : (H : Type) → List (DataW H) → Bool := fun _ ds => decide (uptoBulkAll ds ≤ 1048576)
def OpenSpec.upto (s : _root_.Go.ChangeSpec) : _root_.Go.OpenSpec := { _root_.Go.OpenSpec.ofChange s with cond := some uptoSmall }

/-- 'pencilworkslaw08.HueStains', WHERE WHAT IT READS IS OF BULK AT MOST 1048576: true; the input reads as it did. -/
def hueStainsUptoRow : OpenClaim := { program := "ytlkegffejcndbaa", sum := "1f481edbecee8f29fcdcd7ac7c2f9f4b0812c87e2fa4dacaf00d8fe2aac5b585", func := "pencilworks/pencilworkslaw08.HueStains", spec := "hueStains", unfollowed := true, recurses := true, plainKeys := false, apart := false, narrowed := true }
def HueStainsUptoSaid : Prop := hueStainsUptoRow.holds Try.pinned (OpenSpec.upto hueStainsSpec)

/-- 'pencilworkslaw08.HueBests', WHERE WHAT IT READS IS OF BULK AT MOST 1048576: true; the input reads as it did. -/
def hueBestsUptoRow : OpenClaim := { program := "ytlkegffejcndbaa", sum := "1f481edbecee8f29fcdcd7ac7c2f9f4b0812c87e2fa4dacaf00d8fe2aac5b585", func := "pencilworks/pencilworkslaw08.HueBests", spec := "hueBests", unfollowed := true, recurses := true, plainKeys := false, apart := false, narrowed := true }
def HueBestsUptoSaid : Prop := hueBestsUptoRow.holds Try.pinned (OpenSpec.upto hueBestsSpec)

/-- 'pencilworkslaw08.HueTrue', WHERE WHAT IT READS IS OF BULK AT MOST 1048576: true; the input reads as it did. -/
def hueTrueUptoRow : OpenClaim := { program := "ytlkegffejcndbaa", sum := "1f481edbecee8f29fcdcd7ac7c2f9f4b0812c87e2fa4dacaf00d8fe2aac5b585", func := "pencilworks/pencilworkslaw08.HueTrue", spec := "hueTrue", unfollowed := true, recurses := true, plainKeys := false, apart := false, narrowed := true }
def HueTrueUptoSaid : Prop := hueTrueUptoRow.holds Try.pinned (OpenSpec.upto hueTrueSpec)

/-- 'pencilworkslaw08.HueEnds', WHERE WHAT IT READS IS OF BULK AT MOST 1048576: true; the input reads as it did. -/
def hueEndsUptoRow : OpenClaim := { program := "ytlkegffejcndbaa", sum := "1f481edbecee8f29fcdcd7ac7c2f9f4b0812c87e2fa4dacaf00d8fe2aac5b585", func := "pencilworks/pencilworkslaw08.HueEnds", spec := "hueEnds", unfollowed := true, recurses := true, plainKeys := false, apart := false, narrowed := true }
def HueEndsUptoSaid : Prop := hueEndsUptoRow.holds Try.pinned (OpenSpec.upto hueEndsSpec)

/-- 'pencilworkslaw08.HueWash', WHERE WHAT IT READS IS OF BULK AT MOST 1048576: true; the input reads as it did. -/
def hueWashUptoRow : OpenClaim := { program := "ytlkegffejcndbaa", sum := "1f481edbecee8f29fcdcd7ac7c2f9f4b0812c87e2fa4dacaf00d8fe2aac5b585", func := "pencilworks/pencilworkslaw08.HueWash", spec := "hueWash", unfollowed := true, recurses := true, plainKeys := false, apart := false, narrowed := true }
def HueWashUptoSaid : Prop := hueWashUptoRow.holds Try.pinned (OpenSpec.upto hueWashSpec)

/-- 'pencilworkslaw08.HueBest', WHERE WHAT IT READS IS OF BULK AT MOST 1048576: true; the input reads as it did. -/
def hueBestUptoRow : OpenClaim := { program := "ytlkegffejcndbaa", sum := "1f481edbecee8f29fcdcd7ac7c2f9f4b0812c87e2fa4dacaf00d8fe2aac5b585", func := "pencilworks/pencilworkslaw08.HueBest", spec := "hueBest", unfollowed := true, recurses := true, plainKeys := false, apart := false, narrowed := true }
def HueBestUptoSaid : Prop := hueBestUptoRow.holds Try.pinned (OpenSpec.upto hueBestSpec)

/-- 'pencilworkslaw08.HueMore', WHERE WHAT IT READS IS OF BULK AT MOST 1048576: true; the input reads as it did. -/
def hueMoreUptoRow : OpenClaim := { program := "ytlkegffejcndbaa", sum := "1f481edbecee8f29fcdcd7ac7c2f9f4b0812c87e2fa4dacaf00d8fe2aac5b585", func := "pencilworks/pencilworkslaw08.HueMore", spec := "hueMore", unfollowed := true, recurses := true, plainKeys := false, apart := false, narrowed := true }
def HueMoreUptoSaid : Prop := hueMoreUptoRow.holds Try.pinned (OpenSpec.upto hueMoreSpec)

end Rows
end Go.Proofs.Ytlkegffejcndbaa
