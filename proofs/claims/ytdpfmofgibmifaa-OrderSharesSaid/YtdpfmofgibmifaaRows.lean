/-
  No cell of these rows narrows 'for every input' (looked for: loops, veiled, ifaces, maps, wideKeys, modest, calm, conditions, laid).
  DERIVED. THE GIVEN ROWS OF THIS SEAT. 10 by the template 'for every input the law returns true; each argument reads behind the call as it read before'; 0 by the template 'total and deterministic' (their statements: YtdpfmofgibmifaaTotals.lean).
  GIVEN WITH THE SEED: the statements are not yours to turn. If you find one false, say at which input.
  Laid BY PROGRAM, IN A SANDBOX (cutbox-rows.mjs): the forced cells as the released guide's own fill.sh prints them over the translation 84c14293c0a01d3d… (all of the seat's roots in one cut). By AI agents, Wed Nov 11 2026. No macro, syntax, notation, axiom, sorry.
-/
import Derived.Test.YtdpfmofgibmifaaChecked
import GoSem.Claim
import GoSem.ClaimJoined
import GoSem.ClaimMapViews
import Derived.JoinedTies
import Derived.KernelRfl
namespace Go.Proofs.Ytdpfmofgibmifaa
/- THE CELL 'sum', in the pinned program and in every row, IS THE sha256 OF THE DUMP (.gsa) THAT YtdpfmofgibmifaaProg.lean LOADS. Nothing in Lean hashes anything: it is a label: what it is worth is what the hold of that sum in a sandbox is worth. -/
noncomputable def Try.pinned : Pinned := { name := "ytdpfmofgibmifaa", sum := "84c14293c0a01d3dc08ac41570149052157f5c4fd63223703e72acdf890f8f9e", checked := Try.checked }
namespace Rows
def none {H : Type} : Left H := { results := [], args := [] }

/-- 'pencilworkslaw10.OrderMeets': WHATEVER THE INPUT: true; the input reads as it did. -/
def orderMeetsSpec : ChangeSpec := { name := "orderMeets", fn := fun _ => fun
  | [d] => { results := [.lit (.bool true)], args := [d] }
  | _ => none }
def orderMeetsRow : OpenClaim := { program := "ytdpfmofgibmifaa", sum := "84c14293c0a01d3dc08ac41570149052157f5c4fd63223703e72acdf890f8f9e", func := "pencilworks/pencilworkslaw10.OrderMeets", spec := "orderMeets", unfollowed := true, recurses := true, apart := false }
def OrderMeetsSaid : Prop := orderMeetsRow.holds Try.pinned (OpenSpec.ofChange orderMeetsSpec)

/-- ITS FALSE NEIGHBOUR: 'it returns false'. Refute it at one input. -/
def orderMeetsWrong : ChangeSpec := { name := "orderMeets", fn := fun _ => fun
  | [d] => { results := [.lit (.bool false)], args := [d] }
  | _ => none }
def OrderMeetsWrongFalsely : Prop := orderMeetsRow.holds Try.pinned (OpenSpec.ofChange orderMeetsWrong)

/-- 'pencilworkslaw10.OrderShares': WHATEVER THE INPUT: true; the input reads as it did. -/
def orderSharesSpec : ChangeSpec := { name := "orderShares", fn := fun _ => fun
  | [d] => { results := [.lit (.bool true)], args := [d] }
  | _ => none }
def orderSharesRow : OpenClaim := { program := "ytdpfmofgibmifaa", sum := "84c14293c0a01d3dc08ac41570149052157f5c4fd63223703e72acdf890f8f9e", func := "pencilworks/pencilworkslaw10.OrderShares", spec := "orderShares", unfollowed := true, recurses := true, apart := false }
def OrderSharesSaid : Prop := orderSharesRow.holds Try.pinned (OpenSpec.ofChange orderSharesSpec)

/-- ITS FALSE NEIGHBOUR: 'it returns false'. Refute it at one input. -/
def orderSharesWrong : ChangeSpec := { name := "orderShares", fn := fun _ => fun
  | [d] => { results := [.lit (.bool false)], args := [d] }
  | _ => none }
def OrderSharesWrongFalsely : Prop := orderSharesRow.holds Try.pinned (OpenSpec.ofChange orderSharesWrong)

/-- 'pencilworkslaw10.OrderNames': WHATEVER THE INPUT: true; the input reads as it did. -/
def orderNamesSpec : ChangeSpec := { name := "orderNames", fn := fun _ => fun
  | [] => { results := [.lit (.bool true)], args := [] }
  | _ => none }
def orderNamesRow : OpenClaim := { program := "ytdpfmofgibmifaa", sum := "84c14293c0a01d3dc08ac41570149052157f5c4fd63223703e72acdf890f8f9e", func := "pencilworks/pencilworkslaw10.OrderNames", spec := "orderNames", unfollowed := true, recurses := true, apart := false }
def OrderNamesSaid : Prop := orderNamesRow.holds Try.pinned (OpenSpec.ofChange orderNamesSpec)

/-- ITS FALSE NEIGHBOUR: 'it returns false'. Refute it at one input. -/
def orderNamesWrong : ChangeSpec := { name := "orderNames", fn := fun _ => fun
  | [] => { results := [.lit (.bool false)], args := [] }
  | _ => none }
def OrderNamesWrongFalsely : Prop := orderNamesRow.holds Try.pinned (OpenSpec.ofChange orderNamesWrong)

/-- 'pencilworkslaw10.OrderTrue': WHATEVER THE INPUT: true; the input reads as it did. -/
def orderTrueSpec : ChangeSpec := { name := "orderTrue", fn := fun _ => fun
  | [d1, d2] => { results := [.lit (.bool true)], args := [d1, d2] }
  | _ => none }
def orderTrueRow : OpenClaim := { program := "ytdpfmofgibmifaa", sum := "84c14293c0a01d3dc08ac41570149052157f5c4fd63223703e72acdf890f8f9e", func := "pencilworks/pencilworkslaw10.OrderTrue", spec := "orderTrue", unfollowed := true, recurses := true, apart := false }
def OrderTrueSaid : Prop := orderTrueRow.holds Try.pinned (OpenSpec.ofChange orderTrueSpec)

/-- ITS FALSE NEIGHBOUR: 'it returns false'. Refute it at one input. -/
def orderTrueWrong : ChangeSpec := { name := "orderTrue", fn := fun _ => fun
  | [d1, d2] => { results := [.lit (.bool false)], args := [d1, d2] }
  | _ => none }
def OrderTrueWrongFalsely : Prop := orderTrueRow.holds Try.pinned (OpenSpec.ofChange orderTrueWrong)

/-- 'pencilworkslaw10.OrderCases': WHATEVER THE INPUT: true; the input reads as it did. -/
def orderCasesSpec : ChangeSpec := { name := "orderCases", fn := fun _ => fun
  | [d] => { results := [.lit (.bool true)], args := [d] }
  | _ => none }
def orderCasesRow : OpenClaim := { program := "ytdpfmofgibmifaa", sum := "84c14293c0a01d3dc08ac41570149052157f5c4fd63223703e72acdf890f8f9e", func := "pencilworks/pencilworkslaw10.OrderCases", spec := "orderCases", unfollowed := true, recurses := true, apart := false }
def OrderCasesSaid : Prop := orderCasesRow.holds Try.pinned (OpenSpec.ofChange orderCasesSpec)

/-- ITS FALSE NEIGHBOUR: 'it returns false'. Refute it at one input. -/
def orderCasesWrong : ChangeSpec := { name := "orderCases", fn := fun _ => fun
  | [d] => { results := [.lit (.bool false)], args := [d] }
  | _ => none }
def OrderCasesWrongFalsely : Prop := orderCasesRow.holds Try.pinned (OpenSpec.ofChange orderCasesWrong)

/-- 'pencilworkslaw10.OrderLacks': WHATEVER THE INPUT: true; the input reads as it did. -/
def orderLacksSpec : ChangeSpec := { name := "orderLacks", fn := fun _ => fun
  | [d1, d2] => { results := [.lit (.bool true)], args := [d1, d2] }
  | _ => none }
def orderLacksRow : OpenClaim := { program := "ytdpfmofgibmifaa", sum := "84c14293c0a01d3dc08ac41570149052157f5c4fd63223703e72acdf890f8f9e", func := "pencilworks/pencilworkslaw10.OrderLacks", spec := "orderLacks", unfollowed := true, recurses := true, apart := false }
def OrderLacksSaid : Prop := orderLacksRow.holds Try.pinned (OpenSpec.ofChange orderLacksSpec)

/-- ITS FALSE NEIGHBOUR: 'it returns false'. Refute it at one input. -/
def orderLacksWrong : ChangeSpec := { name := "orderLacks", fn := fun _ => fun
  | [d1, d2] => { results := [.lit (.bool false)], args := [d1, d2] }
  | _ => none }
def OrderLacksWrongFalsely : Prop := orderLacksRow.holds Try.pinned (OpenSpec.ofChange orderLacksWrong)

/-- 'pencilworkslaw10.OrderShare': WHATEVER THE INPUT: true; the input reads as it did. -/
def orderShareSpec : ChangeSpec := { name := "orderShare", fn := fun _ => fun
  | [d] => { results := [.lit (.bool true)], args := [d] }
  | _ => none }
def orderShareRow : OpenClaim := { program := "ytdpfmofgibmifaa", sum := "84c14293c0a01d3dc08ac41570149052157f5c4fd63223703e72acdf890f8f9e", func := "pencilworks/pencilworkslaw10.OrderShare", spec := "orderShare", unfollowed := true, recurses := true, apart := false }
def OrderShareSaid : Prop := orderShareRow.holds Try.pinned (OpenSpec.ofChange orderShareSpec)

/-- ITS FALSE NEIGHBOUR: 'it returns false'. Refute it at one input. -/
def orderShareWrong : ChangeSpec := { name := "orderShare", fn := fun _ => fun
  | [d] => { results := [.lit (.bool false)], args := [d] }
  | _ => none }
def OrderShareWrongFalsely : Prop := orderShareRow.holds Try.pinned (OpenSpec.ofChange orderShareWrong)

/-- 'pencilworkslaw10.OrderBest': WHATEVER THE INPUT: true; the input reads as it did. -/
def orderBestSpec : ChangeSpec := { name := "orderBest", fn := fun _ => fun
  | [d1, d2] => { results := [.lit (.bool true)], args := [d1, d2] }
  | _ => none }
def orderBestRow : OpenClaim := { program := "ytdpfmofgibmifaa", sum := "84c14293c0a01d3dc08ac41570149052157f5c4fd63223703e72acdf890f8f9e", func := "pencilworks/pencilworkslaw10.OrderBest", spec := "orderBest", unfollowed := true, recurses := true, apart := false }
def OrderBestSaid : Prop := orderBestRow.holds Try.pinned (OpenSpec.ofChange orderBestSpec)

/-- ITS FALSE NEIGHBOUR: 'it returns false'. Refute it at one input. -/
def orderBestWrong : ChangeSpec := { name := "orderBest", fn := fun _ => fun
  | [d1, d2] => { results := [.lit (.bool false)], args := [d1, d2] }
  | _ => none }
def OrderBestWrongFalsely : Prop := orderBestRow.holds Try.pinned (OpenSpec.ofChange orderBestWrong)

/-- 'pencilworkslaw10.OrderMore': WHATEVER THE INPUT: true; the input reads as it did. -/
def orderMoreSpec : ChangeSpec := { name := "orderMore", fn := fun _ => fun
  | [d1, d2, d3, d4] => { results := [.lit (.bool true)], args := [d1, d2, d3, d4] }
  | _ => none }
def orderMoreRow : OpenClaim := { program := "ytdpfmofgibmifaa", sum := "84c14293c0a01d3dc08ac41570149052157f5c4fd63223703e72acdf890f8f9e", func := "pencilworks/pencilworkslaw10.OrderMore", spec := "orderMore", unfollowed := true, recurses := true, apart := false }
def OrderMoreSaid : Prop := orderMoreRow.holds Try.pinned (OpenSpec.ofChange orderMoreSpec)

/-- ITS FALSE NEIGHBOUR: 'it returns false'. Refute it at one input. -/
def orderMoreWrong : ChangeSpec := { name := "orderMore", fn := fun _ => fun
  | [d1, d2, d3, d4] => { results := [.lit (.bool false)], args := [d1, d2, d3, d4] }
  | _ => none }
def OrderMoreWrongFalsely : Prop := orderMoreRow.holds Try.pinned (OpenSpec.ofChange orderMoreWrong)

/-- 'pencilworkslaw10.OrderOwns': WHATEVER THE INPUT: true; the input reads as it did. -/
def orderOwnsSpec : ChangeSpec := { name := "orderOwns", fn := fun _ => fun
  | [d] => { results := [.lit (.bool true)], args := [d] }
  | _ => none }
def orderOwnsRow : OpenClaim := { program := "ytdpfmofgibmifaa", sum := "84c14293c0a01d3dc08ac41570149052157f5c4fd63223703e72acdf890f8f9e", func := "pencilworks/pencilworkslaw10.OrderOwns", spec := "orderOwns", unfollowed := true, recurses := true, apart := false }
def OrderOwnsSaid : Prop := orderOwnsRow.holds Try.pinned (OpenSpec.ofChange orderOwnsSpec)

/-- ITS FALSE NEIGHBOUR: 'it returns false'. Refute it at one input. -/
def orderOwnsWrong : ChangeSpec := { name := "orderOwns", fn := fun _ => fun
  | [d] => { results := [.lit (.bool false)], args := [d] }
  | _ => none }
def OrderOwnsWrongFalsely : Prop := orderOwnsRow.holds Try.pinned (OpenSpec.ofChange orderOwnsWrong)

/- THE SECOND FORM. 'bulk': how many values and letters a reading holds, each counted each time it is reached (what is shared counts as often as it is met; a slice's spare places count too). A statement '..UptoSaid' is the law's where the arguments, and the package variables that the reading takes, are together of bulk at most 1048576: NARROWER than '..Said'. Prove '..Said' where nothing that the law and all that it calls make is longer than what came in: it says more and counts as full. Else prove '..UptoSaid'. A law counts once. -/
mutual
def uptoBulk {H : Type} : DataW H → Nat
  | .lit (.string bytes) => bytes.length + 1
  | .lit _ => 1
  | .nil => 1
  | .ptr d => uptoBulk d + 1
  | .slice elems spare => uptoBulkAll elems + uptoBulkAll spare + 1
  | .agg parts => uptoBulkAll parts + 1
  | .iface _ d => uptoBulk d + 1
  | .map entries => uptoBulkEntries entries + 1
  | .held _ => 1
def uptoBulkAll {H : Type} : List (DataW H) → Nat
  | [] => 0
  | d :: r => uptoBulk d + uptoBulkAll r
def uptoBulkEntries {H : Type} : List (Lit × DataW H) → Nat
  | [] => 0
  | x :: r => uptoBulkEntry x + uptoBulkEntries r
def uptoBulkEntry {H : Type} : Lit × DataW H → Nat
  | (.string bytes, d) => bytes.length + uptoBulk d + 1
  | (_, d) => uptoBulk d + 1
 end
def uptoSmall : (H : Type) → List (DataW H) → Bool := fun _ ds => decide (uptoBulkAll ds ≤ 1048576)
def OpenSpec.upto (s : _root_.Go.ChangeSpec) : _root_.Go.OpenSpec := { _root_.Go.OpenSpec.ofChange s with cond := some uptoSmall }

/-- 'pencilworkslaw10.OrderMeets', WHERE WHAT IT READS IS OF BULK AT MOST 1048576: true; the input reads as it did. -/
def orderMeetsUptoRow : OpenClaim := { program := "ytdpfmofgibmifaa", sum := "84c14293c0a01d3dc08ac41570149052157f5c4fd63223703e72acdf890f8f9e", func := "pencilworks/pencilworkslaw10.OrderMeets", spec := "orderMeets", unfollowed := true, recurses := true, apart := false, narrowed := true }
def OrderMeetsUptoSaid : Prop := orderMeetsUptoRow.holds Try.pinned (OpenSpec.upto orderMeetsSpec)

/-- 'pencilworkslaw10.OrderShares', WHERE WHAT IT READS IS OF BULK AT MOST 1048576: true; the input reads as it did. -/
def orderSharesUptoRow : OpenClaim := { program := "ytdpfmofgibmifaa", sum := "84c14293c0a01d3dc08ac41570149052157f5c4fd63223703e72acdf890f8f9e", func := "pencilworks/pencilworkslaw10.OrderShares", spec := "orderShares", unfollowed := true, recurses := true, apart := false, narrowed := true }
def OrderSharesUptoSaid : Prop := orderSharesUptoRow.holds Try.pinned (OpenSpec.upto orderSharesSpec)

/-- 'pencilworkslaw10.OrderNames', WHERE WHAT IT READS IS OF BULK AT MOST 1048576: true; the input reads as it did. -/
def orderNamesUptoRow : OpenClaim := { program := "ytdpfmofgibmifaa", sum := "84c14293c0a01d3dc08ac41570149052157f5c4fd63223703e72acdf890f8f9e", func := "pencilworks/pencilworkslaw10.OrderNames", spec := "orderNames", unfollowed := true, recurses := true, apart := false, narrowed := true }
def OrderNamesUptoSaid : Prop := orderNamesUptoRow.holds Try.pinned (OpenSpec.upto orderNamesSpec)

/-- 'pencilworkslaw10.OrderTrue', WHERE WHAT IT READS IS OF BULK AT MOST 1048576: true; the input reads as it did. -/
def orderTrueUptoRow : OpenClaim := { program := "ytdpfmofgibmifaa", sum := "84c14293c0a01d3dc08ac41570149052157f5c4fd63223703e72acdf890f8f9e", func := "pencilworks/pencilworkslaw10.OrderTrue", spec := "orderTrue", unfollowed := true, recurses := true, apart := false, narrowed := true }
def OrderTrueUptoSaid : Prop := orderTrueUptoRow.holds Try.pinned (OpenSpec.upto orderTrueSpec)

/-- 'pencilworkslaw10.OrderCases', WHERE WHAT IT READS IS OF BULK AT MOST 1048576: true; the input reads as it did. -/
def orderCasesUptoRow : OpenClaim := { program := "ytdpfmofgibmifaa", sum := "84c14293c0a01d3dc08ac41570149052157f5c4fd63223703e72acdf890f8f9e", func := "pencilworks/pencilworkslaw10.OrderCases", spec := "orderCases", unfollowed := true, recurses := true, apart := false, narrowed := true }
def OrderCasesUptoSaid : Prop := orderCasesUptoRow.holds Try.pinned (OpenSpec.upto orderCasesSpec)

/-- 'pencilworkslaw10.OrderLacks', WHERE WHAT IT READS IS OF BULK AT MOST 1048576: true; the input reads as it did. -/
def orderLacksUptoRow : OpenClaim := { program := "ytdpfmofgibmifaa", sum := "84c14293c0a01d3dc08ac41570149052157f5c4fd63223703e72acdf890f8f9e", func := "pencilworks/pencilworkslaw10.OrderLacks", spec := "orderLacks", unfollowed := true, recurses := true, apart := false, narrowed := true }
def OrderLacksUptoSaid : Prop := orderLacksUptoRow.holds Try.pinned (OpenSpec.upto orderLacksSpec)

/-- 'pencilworkslaw10.OrderShare', WHERE WHAT IT READS IS OF BULK AT MOST 1048576: true; the input reads as it did. -/
def orderShareUptoRow : OpenClaim := { program := "ytdpfmofgibmifaa", sum := "84c14293c0a01d3dc08ac41570149052157f5c4fd63223703e72acdf890f8f9e", func := "pencilworks/pencilworkslaw10.OrderShare", spec := "orderShare", unfollowed := true, recurses := true, apart := false, narrowed := true }
def OrderShareUptoSaid : Prop := orderShareUptoRow.holds Try.pinned (OpenSpec.upto orderShareSpec)

/-- 'pencilworkslaw10.OrderBest', WHERE WHAT IT READS IS OF BULK AT MOST 1048576: true; the input reads as it did. -/
def orderBestUptoRow : OpenClaim := { program := "ytdpfmofgibmifaa", sum := "84c14293c0a01d3dc08ac41570149052157f5c4fd63223703e72acdf890f8f9e", func := "pencilworks/pencilworkslaw10.OrderBest", spec := "orderBest", unfollowed := true, recurses := true, apart := false, narrowed := true }
def OrderBestUptoSaid : Prop := orderBestUptoRow.holds Try.pinned (OpenSpec.upto orderBestSpec)

/-- 'pencilworkslaw10.OrderMore', WHERE WHAT IT READS IS OF BULK AT MOST 1048576: true; the input reads as it did. -/
def orderMoreUptoRow : OpenClaim := { program := "ytdpfmofgibmifaa", sum := "84c14293c0a01d3dc08ac41570149052157f5c4fd63223703e72acdf890f8f9e", func := "pencilworks/pencilworkslaw10.OrderMore", spec := "orderMore", unfollowed := true, recurses := true, apart := false, narrowed := true }
def OrderMoreUptoSaid : Prop := orderMoreUptoRow.holds Try.pinned (OpenSpec.upto orderMoreSpec)

/-- 'pencilworkslaw10.OrderOwns', WHERE WHAT IT READS IS OF BULK AT MOST 1048576: true; the input reads as it did. -/
def orderOwnsUptoRow : OpenClaim := { program := "ytdpfmofgibmifaa", sum := "84c14293c0a01d3dc08ac41570149052157f5c4fd63223703e72acdf890f8f9e", func := "pencilworks/pencilworkslaw10.OrderOwns", spec := "orderOwns", unfollowed := true, recurses := true, apart := false, narrowed := true }
def OrderOwnsUptoSaid : Prop := orderOwnsUptoRow.holds Try.pinned (OpenSpec.upto orderOwnsSpec)

end Rows
end Go.Proofs.Ytdpfmofgibmifaa
