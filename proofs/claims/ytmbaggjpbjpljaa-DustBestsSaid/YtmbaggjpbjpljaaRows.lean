/-
  No cell of these rows narrows 'for every input' (looked for: loops, veiled, ifaces, maps, wideKeys, modest, calm, conditions, laid).
  DERIVED. THE GIVEN ROWS OF THIS SEAT. 6 by the template 'for every input the law returns true; each argument reads behind the call as it read before'; 0 by the template 'total and deterministic' (their statements: YtmbaggjpbjpljaaTotals.lean).
  GIVEN WITH THE SEED: the statements are not yours to turn. If you find one false, say at which input.
  Laid BY PROGRAM, IN A SANDBOX (cutbox-rows.mjs): the forced cells as the released guide's own fill.sh prints them over the translation 7fd9730048327d01… (all of the seat's roots in one cut). By AI agents, Wed Nov 11 2026. No macro, syntax, notation, axiom, sorry.
-/
import Derived.Test.YtmbaggjpbjpljaaChecked
import GoSem.Claim
import GoSem.ClaimJoined
import GoSem.ClaimMapViews
import Derived.JoinedTies
import Derived.KernelRfl
namespace Go.Proofs.Ytmbaggjpbjpljaa
/- THE CELL 'sum', in the pinned program and in every row, IS THE sha256 OF THE DUMP (.gsa) THAT YtmbaggjpbjpljaaProg.lean LOADS. Nothing in Lean hashes anything: it is a label: what it is worth is what the hold of that sum in a sandbox is worth. -/
noncomputable def Try.pinned : Pinned := { name := "ytmbaggjpbjpljaa", sum := "7fd9730048327d0150ee0ffeb65f5e3f2c8df4885216410c168c3c940db6afd9", checked := Try.checked }
namespace Rows
def none {H : Type} : Left H := { results := [], args := [] }

/-- 'pencilworkslaw13.DustFeeds': WHATEVER THE INPUT: true; the input reads as it did. -/
def dustFeedsSpec : ChangeSpec := { name := "dustFeeds", fn := fun _ => fun
  | [d1, d2, d3, d4, d5, d6] => { results := [.lit (.bool true)], args := [d1, d2, d3, d4, d5, d6] }
  | _ => none }
def dustFeedsRow : OpenClaim := { program := "ytmbaggjpbjpljaa", sum := "7fd9730048327d0150ee0ffeb65f5e3f2c8df4885216410c168c3c940db6afd9", func := "pencilworks/pencilworkslaw13.DustFeeds", spec := "dustFeeds", unfollowed := true, recurses := true, plainKeys := false, apart := false }
def DustFeedsSaid : Prop := dustFeedsRow.holds Try.pinned (OpenSpec.ofChange dustFeedsSpec)

/-- ITS FALSE NEIGHBOUR: 'it returns false'. Refute it at one input. -/
def dustFeedsWrong : ChangeSpec := { name := "dustFeeds", fn := fun _ => fun
  | [d1, d2, d3, d4, d5, d6] => { results := [.lit (.bool false)], args := [d1, d2, d3, d4, d5, d6] }
  | _ => none }
def DustFeedsWrongFalsely : Prop := dustFeedsRow.holds Try.pinned (OpenSpec.ofChange dustFeedsWrong)

/-- 'pencilworkslaw13.DustBests': WHATEVER THE INPUT: true; the input reads as it did. -/
def dustBestsSpec : ChangeSpec := { name := "dustBests", fn := fun _ => fun
  | [d1, d2] => { results := [.lit (.bool true)], args := [d1, d2] }
  | _ => none }
def dustBestsRow : OpenClaim := { program := "ytmbaggjpbjpljaa", sum := "7fd9730048327d0150ee0ffeb65f5e3f2c8df4885216410c168c3c940db6afd9", func := "pencilworks/pencilworkslaw13.DustBests", spec := "dustBests", unfollowed := true, recurses := true, plainKeys := false, apart := false }
def DustBestsSaid : Prop := dustBestsRow.holds Try.pinned (OpenSpec.ofChange dustBestsSpec)

/-- ITS FALSE NEIGHBOUR: 'it returns false'. Refute it at one input. -/
def dustBestsWrong : ChangeSpec := { name := "dustBests", fn := fun _ => fun
  | [d1, d2] => { results := [.lit (.bool false)], args := [d1, d2] }
  | _ => none }
def DustBestsWrongFalsely : Prop := dustBestsRow.holds Try.pinned (OpenSpec.ofChange dustBestsWrong)

/-- 'pencilworkslaw13.DustTrue': WHATEVER THE INPUT: true; the input reads as it did. -/
def dustTrueSpec : ChangeSpec := { name := "dustTrue", fn := fun _ => fun
  | [d1, d2, d3] => { results := [.lit (.bool true)], args := [d1, d2, d3] }
  | _ => none }
def dustTrueRow : OpenClaim := { program := "ytmbaggjpbjpljaa", sum := "7fd9730048327d0150ee0ffeb65f5e3f2c8df4885216410c168c3c940db6afd9", func := "pencilworks/pencilworkslaw13.DustTrue", spec := "dustTrue", unfollowed := true, recurses := true, plainKeys := false, apart := false }
def DustTrueSaid : Prop := dustTrueRow.holds Try.pinned (OpenSpec.ofChange dustTrueSpec)

/-- ITS FALSE NEIGHBOUR: 'it returns false'. Refute it at one input. -/
def dustTrueWrong : ChangeSpec := { name := "dustTrue", fn := fun _ => fun
  | [d1, d2, d3] => { results := [.lit (.bool false)], args := [d1, d2, d3] }
  | _ => none }
def DustTrueWrongFalsely : Prop := dustTrueRow.holds Try.pinned (OpenSpec.ofChange dustTrueWrong)

/-- 'pencilworkslaw13.DustCoal': WHATEVER THE INPUT: true; the input reads as it did. -/
def dustCoalSpec : ChangeSpec := { name := "dustCoal", fn := fun _ => fun
  | [d1, d2, d3, d4] => { results := [.lit (.bool true)], args := [d1, d2, d3, d4] }
  | _ => none }
def dustCoalRow : OpenClaim := { program := "ytmbaggjpbjpljaa", sum := "7fd9730048327d0150ee0ffeb65f5e3f2c8df4885216410c168c3c940db6afd9", func := "pencilworks/pencilworkslaw13.DustCoal", spec := "dustCoal", unfollowed := true, recurses := true, plainKeys := false, apart := false }
def DustCoalSaid : Prop := dustCoalRow.holds Try.pinned (OpenSpec.ofChange dustCoalSpec)

/-- ITS FALSE NEIGHBOUR: 'it returns false'. Refute it at one input. -/
def dustCoalWrong : ChangeSpec := { name := "dustCoal", fn := fun _ => fun
  | [d1, d2, d3, d4] => { results := [.lit (.bool false)], args := [d1, d2, d3, d4] }
  | _ => none }
def DustCoalWrongFalsely : Prop := dustCoalRow.holds Try.pinned (OpenSpec.ofChange dustCoalWrong)

/-- 'pencilworkslaw13.DustBest': WHATEVER THE INPUT: true; the input reads as it did. -/
def dustBestSpec : ChangeSpec := { name := "dustBest", fn := fun _ => fun
  | [d1, d2, d3] => { results := [.lit (.bool true)], args := [d1, d2, d3] }
  | _ => none }
def dustBestRow : OpenClaim := { program := "ytmbaggjpbjpljaa", sum := "7fd9730048327d0150ee0ffeb65f5e3f2c8df4885216410c168c3c940db6afd9", func := "pencilworks/pencilworkslaw13.DustBest", spec := "dustBest", unfollowed := true, recurses := true, plainKeys := false, apart := false }
def DustBestSaid : Prop := dustBestRow.holds Try.pinned (OpenSpec.ofChange dustBestSpec)

/-- ITS FALSE NEIGHBOUR: 'it returns false'. Refute it at one input. -/
def dustBestWrong : ChangeSpec := { name := "dustBest", fn := fun _ => fun
  | [d1, d2, d3] => { results := [.lit (.bool false)], args := [d1, d2, d3] }
  | _ => none }
def DustBestWrongFalsely : Prop := dustBestRow.holds Try.pinned (OpenSpec.ofChange dustBestWrong)

/-- 'pencilworkslaw13.DustMore': WHATEVER THE INPUT: true; the input reads as it did. -/
def dustMoreSpec : ChangeSpec := { name := "dustMore", fn := fun _ => fun
  | [d1, d2, d3] => { results := [.lit (.bool true)], args := [d1, d2, d3] }
  | _ => none }
def dustMoreRow : OpenClaim := { program := "ytmbaggjpbjpljaa", sum := "7fd9730048327d0150ee0ffeb65f5e3f2c8df4885216410c168c3c940db6afd9", func := "pencilworks/pencilworkslaw13.DustMore", spec := "dustMore", unfollowed := true, recurses := true, plainKeys := false, apart := false }
def DustMoreSaid : Prop := dustMoreRow.holds Try.pinned (OpenSpec.ofChange dustMoreSpec)

/-- ITS FALSE NEIGHBOUR: 'it returns false'. Refute it at one input. -/
def dustMoreWrong : ChangeSpec := { name := "dustMore", fn := fun _ => fun
  | [d1, d2, d3] => { results := [.lit (.bool false)], args := [d1, d2, d3] }
  | _ => none }
def DustMoreWrongFalsely : Prop := dustMoreRow.holds Try.pinned (OpenSpec.ofChange dustMoreWrong)

/- THE SECOND FORM. 'bulk': how many values and letters a reading holds, each counted each time it is reached (what is shared counts as often as it is met; a slice's spare places count too). A statement '..UptoSaid' is the law's where the arguments, and the package variables that the reading takes, are together of bulk at most 1048576: NARROWER than '..Said'. Prove '..Said' where nothing that the law and all that it calls make is longer than what came in: it says more and counts as full. Else prove '..UptoSaid'. A law counts once. -/
mutual
def uptoBulk {H : Type} : DataW H → Nat
  | .lit (.string bytes) => bytes.length + 1
  | .lit _ => 1
  | .nil => 1
  | .ptr d => uptoBulk d + 1
  | .slice elems spare => uptoBulkAll elems + uptoBulkAll spare + 1
  | .agg parts => uptoBulkAll parts + 1
  | .iface _ d => uptoBulk d + 1
  | .map entries => uptoBulkEntries entries + 1
  | .held _ => 1
def uptoBulkAll {H : Type} : List (DataW H) → Nat
  | [] => 0
  | d :: r => uptoBulk d + uptoBulkAll r
def uptoBulkEntries {H : Type} : List (Lit × DataW H) → Nat
  | [] => 0
  | x :: r => uptoBulkEntry x + uptoBulkEntries r
def uptoBulkEntry {H : Type} : Lit × DataW H → Nat
  | (.string bytes, d) => bytes.length + uptoBulk d + 1
  | (_, d) => uptoBulk d + 1
 end
def uptoSmall : (H : Type) → List (DataW H) → Bool := fun _ ds => decide (uptoBulkAll ds ≤ 1048576)
def OpenSpec.upto (s : _root_.Go.ChangeSpec) : _root_.Go.OpenSpec := { _root_.Go.OpenSpec.ofChange s with cond := some uptoSmall }

/-- 'pencilworkslaw13.DustFeeds', WHERE WHAT IT READS IS OF BULK AT MOST 1048576: true; the input reads as it did. -/
def dustFeedsUptoRow : OpenClaim := { program := "ytmbaggjpbjpljaa", sum := "7fd9730048327d0150ee0ffeb65f5e3f2c8df4885216410c168c3c940db6afd9", func := "pencilworks/pencilworkslaw13.DustFeeds", spec := "dustFeeds", unfollowed := true, recurses := true, plainKeys := false, apart := false, narrowed := true }
def DustFeedsUptoSaid : Prop := dustFeedsUptoRow.holds Try.pinned (OpenSpec.upto dustFeedsSpec)

/-- 'pencilworkslaw13.DustBests', WHERE WHAT IT READS IS OF BULK AT MOST 1048576: true; the input reads as it did. -/
def dustBestsUptoRow : OpenClaim := { program := "ytmbaggjpbjpljaa", sum := "7fd9730048327d0150ee0ffeb65f5e3f2c8df4885216410c168c3c940db6afd9", func := "pencilworks/pencilworkslaw13.DustBests", spec := "dustBests", unfollowed := true, recurses := true, plainKeys := false, apart := false, narrowed := true }
def DustBestsUptoSaid : Prop := dustBestsUptoRow.holds Try.pinned (OpenSpec.upto dustBestsSpec)

/-- 'pencilworkslaw13.DustTrue', WHERE WHAT IT READS IS OF BULK AT MOST 1048576: true; the input reads as it did. -/
def dustTrueUptoRow : OpenClaim := { program := "ytmbaggjpbjpljaa", sum := "7fd9730048327d0150ee0ffeb65f5e3f2c8df4885216410c168c3c940db6afd9", func := "pencilworks/pencilworkslaw13.DustTrue", spec := "dustTrue", unfollowed := true, recurses := true, plainKeys := false, apart := false, narrowed := true }
def DustTrueUptoSaid : Prop := dustTrueUptoRow.holds Try.pinned (OpenSpec.upto dustTrueSpec)

/-- 'pencilworkslaw13.DustCoal', WHERE WHAT IT READS IS OF BULK AT MOST 1048576: true; the input reads as it did. -/
def dustCoalUptoRow : OpenClaim := { program := "ytmbaggjpbjpljaa", sum := "7fd9730048327d0150ee0ffeb65f5e3f2c8df4885216410c168c3c940db6afd9", func := "pencilworks/pencilworkslaw13.DustCoal", spec := "dustCoal", unfollowed := true, recurses := true, plainKeys := false, apart := false, narrowed := true }
def DustCoalUptoSaid : Prop := dustCoalUptoRow.holds Try.pinned (OpenSpec.upto dustCoalSpec)

/-- 'pencilworkslaw13.DustBest', WHERE WHAT IT READS IS OF BULK AT MOST 1048576: true; the input reads as it did. -/
def dustBestUptoRow : OpenClaim := { program := "ytmbaggjpbjpljaa", sum := "7fd9730048327d0150ee0ffeb65f5e3f2c8df4885216410c168c3c940db6afd9", func := "pencilworks/pencilworkslaw13.DustBest", spec := "dustBest", unfollowed := true, recurses := true, plainKeys := false, apart := false, narrowed := true }
def DustBestUptoSaid : Prop := dustBestUptoRow.holds Try.pinned (OpenSpec.upto dustBestSpec)

/-- 'pencilworkslaw13.DustMore', WHERE WHAT IT READS IS OF BULK AT MOST 1048576: true; the input reads as it did. -/
def dustMoreUptoRow : OpenClaim := { program := "ytmbaggjpbjpljaa", sum := "7fd9730048327d0150ee0ffeb65f5e3f2c8df4885216410c168c3c940db6afd9", func := "pencilworks/pencilworkslaw13.DustMore", spec := "dustMore", unfollowed := true, recurses := true, plainKeys := false, apart := false, narrowed := true }
def DustMoreUptoSaid : Prop := dustMoreUptoRow.holds Try.pinned (OpenSpec.upto dustMoreSpec)

end Rows
end Go.Proofs.Ytmbaggjpbjpljaa
