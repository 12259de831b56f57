/-
  No cell of these rows narrows 'for every input' (looked for: loops, veiled, ifaces, maps, wideKeys, modest, calm, conditions, laid).
  DERIVED. THE GIVEN ROWS OF THIS SEAT. 10 by the template 'for every input the law returns true; each argument reads behind the call as it read before'; 0 by the template 'total and deterministic' (their statements: YtfjkenhmaebpmaaTotals.lean).
  GIVEN WITH THE SEED: the statements are not yours to turn. If you find one false, say at which input.
  Laid BY PROGRAM, IN A SANDBOX (cutbox-rows.mjs): the forced cells as the released guide's own fill.sh prints them over the translation ba0d43dd8574af95… (all of the seat's roots in one cut). By AI agents, Wed Nov 11 2026. No macro, syntax, notation, axiom, sorry.
-/
import Derived.Test.YtfjkenhmaebpmaaChecked
import GoSem.Claim
import GoSem.ClaimJoined
import GoSem.ClaimMapViews
import Derived.JoinedTies
import Derived.KernelRfl
namespace Go.Proofs.Ytfjkenhmaebpmaa
/- THE CELL 'sum', in the pinned program and in every row, IS THE sha256 OF THE DUMP (.gsa) THAT YtfjkenhmaebpmaaProg.lean LOADS. Nothing in Lean hashes anything: it is a label: what it is worth is what the hold of that sum in a sandbox is worth. -/
noncomputable def Try.pinned : Pinned := { name := "ytfjkenhmaebpmaa", sum := "ba0d43dd8574af95e243c0fafcfecc170d1308d41a0b8a313b3df8f773bb3b7f", checked := Try.checked }
namespace Rows
def none {H : Type} : Left H := { results := [], args := [] }

/-- 'pencilworkslaw03.FireChecks': WHATEVER THE INPUT: true; the input reads as it did. -/
def fireChecksSpec : ChangeSpec := { name := "fireChecks", fn := fun _ => fun
  | [d1, d2, d3, d4, d5] => { results := [.lit (.bool true)], args := [d1, d2, d3, d4, d5] }
  | _ => none }
def fireChecksRow : OpenClaim := { program := "ytfjkenhmaebpmaa", sum := "ba0d43dd8574af95e243c0fafcfecc170d1308d41a0b8a313b3df8f773bb3b7f", func := "pencilworks/pencilworkslaw03.FireChecks", spec := "fireChecks", unfollowed := true, recurses := true, plainKeys := false, apart := false }
def FireChecksSaid : Prop := fireChecksRow.holds Try.pinned (OpenSpec.ofChange fireChecksSpec)

/-- ITS FALSE NEIGHBOUR: 'it returns false'. Refute it at one input. -/
def fireChecksWrong : ChangeSpec := { name := "fireChecks", fn := fun _ => fun
  | [d1, d2, d3, d4, d5] => { results := [.lit (.bool false)], args := [d1, d2, d3, d4, d5] }
  | _ => none }
def FireChecksWrongFalsely : Prop := fireChecksRow.holds Try.pinned (OpenSpec.ofChange fireChecksWrong)

/-- 'pencilworkslaw03.FirePlans': WHATEVER THE INPUT: true; the input reads as it did. -/
def firePlansSpec : ChangeSpec := { name := "firePlans", fn := fun _ => fun
  | [d1, d2, d3] => { results := [.lit (.bool true)], args := [d1, d2, d3] }
  | _ => none }
def firePlansRow : OpenClaim := { program := "ytfjkenhmaebpmaa", sum := "ba0d43dd8574af95e243c0fafcfecc170d1308d41a0b8a313b3df8f773bb3b7f", func := "pencilworks/pencilworkslaw03.FirePlans", spec := "firePlans", unfollowed := true, recurses := true, plainKeys := false, apart := false }
def FirePlansSaid : Prop := firePlansRow.holds Try.pinned (OpenSpec.ofChange firePlansSpec)

/-- ITS FALSE NEIGHBOUR: 'it returns false'. Refute it at one input. -/
def firePlansWrong : ChangeSpec := { name := "firePlans", fn := fun _ => fun
  | [d1, d2, d3] => { results := [.lit (.bool false)], args := [d1, d2, d3] }
  | _ => none }
def FirePlansWrongFalsely : Prop := firePlansRow.holds Try.pinned (OpenSpec.ofChange firePlansWrong)

/-- 'pencilworkslaw03.FireStands': WHATEVER THE INPUT: true; the input reads as it did. -/
def fireStandsSpec : ChangeSpec := { name := "fireStands", fn := fun _ => fun
  | [d1, d2, d3] => { results := [.lit (.bool true)], args := [d1, d2, d3] }
  | _ => none }
def fireStandsRow : OpenClaim := { program := "ytfjkenhmaebpmaa", sum := "ba0d43dd8574af95e243c0fafcfecc170d1308d41a0b8a313b3df8f773bb3b7f", func := "pencilworks/pencilworkslaw03.FireStands", spec := "fireStands", unfollowed := true, recurses := true, plainKeys := false, apart := false }
def FireStandsSaid : Prop := fireStandsRow.holds Try.pinned (OpenSpec.ofChange fireStandsSpec)

/-- ITS FALSE NEIGHBOUR: 'it returns false'. Refute it at one input. -/
def fireStandsWrong : ChangeSpec := { name := "fireStands", fn := fun _ => fun
  | [d1, d2, d3] => { results := [.lit (.bool false)], args := [d1, d2, d3] }
  | _ => none }
def FireStandsWrongFalsely : Prop := fireStandsRow.holds Try.pinned (OpenSpec.ofChange fireStandsWrong)

/-- 'pencilworkslaw03.FireNames': WHATEVER THE INPUT: true; the input reads as it did. -/
def fireNamesSpec : ChangeSpec := { name := "fireNames", fn := fun _ => fun
  | [] => { results := [.lit (.bool true)], args := [] }
  | _ => none }
def fireNamesRow : OpenClaim := { program := "ytfjkenhmaebpmaa", sum := "ba0d43dd8574af95e243c0fafcfecc170d1308d41a0b8a313b3df8f773bb3b7f", func := "pencilworks/pencilworkslaw03.FireNames", spec := "fireNames", unfollowed := true, recurses := true, plainKeys := false, apart := false }
def FireNamesSaid : Prop := fireNamesRow.holds Try.pinned (OpenSpec.ofChange fireNamesSpec)

/-- ITS FALSE NEIGHBOUR: 'it returns false'. Refute it at one input. -/
def fireNamesWrong : ChangeSpec := { name := "fireNames", fn := fun _ => fun
  | [] => { results := [.lit (.bool false)], args := [] }
  | _ => none }
def FireNamesWrongFalsely : Prop := fireNamesRow.holds Try.pinned (OpenSpec.ofChange fireNamesWrong)

/-- 'pencilworkslaw03.FireTrue': WHATEVER THE INPUT: true; the input reads as it did. -/
def fireTrueSpec : ChangeSpec := { name := "fireTrue", fn := fun _ => fun
  | [d1, d2, d3, d4] => { results := [.lit (.bool true)], args := [d1, d2, d3, d4] }
  | _ => none }
def fireTrueRow : OpenClaim := { program := "ytfjkenhmaebpmaa", sum := "ba0d43dd8574af95e243c0fafcfecc170d1308d41a0b8a313b3df8f773bb3b7f", func := "pencilworks/pencilworkslaw03.FireTrue", spec := "fireTrue", unfollowed := true, recurses := true, plainKeys := false, apart := false }
def FireTrueSaid : Prop := fireTrueRow.holds Try.pinned (OpenSpec.ofChange fireTrueSpec)

/-- ITS FALSE NEIGHBOUR: 'it returns false'. Refute it at one input. -/
def fireTrueWrong : ChangeSpec := { name := "fireTrue", fn := fun _ => fun
  | [d1, d2, d3, d4] => { results := [.lit (.bool false)], args := [d1, d2, d3, d4] }
  | _ => none }
def FireTrueWrongFalsely : Prop := fireTrueRow.holds Try.pinned (OpenSpec.ofChange fireTrueWrong)

/-- 'pencilworkslaw03.FireEnds': WHATEVER THE INPUT: true; the input reads as it did. -/
def fireEndsSpec : ChangeSpec := { name := "fireEnds", fn := fun _ => fun
  | [d1, d2, d3, d4] => { results := [.lit (.bool true)], args := [d1, d2, d3, d4] }
  | _ => none }
def fireEndsRow : OpenClaim := { program := "ytfjkenhmaebpmaa", sum := "ba0d43dd8574af95e243c0fafcfecc170d1308d41a0b8a313b3df8f773bb3b7f", func := "pencilworks/pencilworkslaw03.FireEnds", spec := "fireEnds", unfollowed := true, recurses := true, plainKeys := false, apart := false }
def FireEndsSaid : Prop := fireEndsRow.holds Try.pinned (OpenSpec.ofChange fireEndsSpec)

/-- ITS FALSE NEIGHBOUR: 'it returns false'. Refute it at one input. -/
def fireEndsWrong : ChangeSpec := { name := "fireEnds", fn := fun _ => fun
  | [d1, d2, d3, d4] => { results := [.lit (.bool false)], args := [d1, d2, d3, d4] }
  | _ => none }
def FireEndsWrongFalsely : Prop := fireEndsRow.holds Try.pinned (OpenSpec.ofChange fireEndsWrong)

/-- 'pencilworkslaw03.FirePlan': WHATEVER THE INPUT: true; the input reads as it did. -/
def firePlanSpec : ChangeSpec := { name := "firePlan", fn := fun _ => fun
  | [d1, d2, d3, d4] => { results := [.lit (.bool true)], args := [d1, d2, d3, d4] }
  | _ => none }
def firePlanRow : OpenClaim := { program := "ytfjkenhmaebpmaa", sum := "ba0d43dd8574af95e243c0fafcfecc170d1308d41a0b8a313b3df8f773bb3b7f", func := "pencilworks/pencilworkslaw03.FirePlan", spec := "firePlan", unfollowed := true, recurses := true, plainKeys := false, apart := false }
def FirePlanSaid : Prop := firePlanRow.holds Try.pinned (OpenSpec.ofChange firePlanSpec)

/-- ITS FALSE NEIGHBOUR: 'it returns false'. Refute it at one input. -/
def firePlanWrong : ChangeSpec := { name := "firePlan", fn := fun _ => fun
  | [d1, d2, d3, d4] => { results := [.lit (.bool false)], args := [d1, d2, d3, d4] }
  | _ => none }
def FirePlanWrongFalsely : Prop := firePlanRow.holds Try.pinned (OpenSpec.ofChange firePlanWrong)

/-- 'pencilworkslaw03.FireLess': WHATEVER THE INPUT: true; the input reads as it did. -/
def fireLessSpec : ChangeSpec := { name := "fireLess", fn := fun _ => fun
  | [d1, d2, d3, d4, d5] => { results := [.lit (.bool true)], args := [d1, d2, d3, d4, d5] }
  | _ => none }
def fireLessRow : OpenClaim := { program := "ytfjkenhmaebpmaa", sum := "ba0d43dd8574af95e243c0fafcfecc170d1308d41a0b8a313b3df8f773bb3b7f", func := "pencilworks/pencilworkslaw03.FireLess", spec := "fireLess", unfollowed := true, recurses := true, plainKeys := false, apart := false }
def FireLessSaid : Prop := fireLessRow.holds Try.pinned (OpenSpec.ofChange fireLessSpec)

/-- ITS FALSE NEIGHBOUR: 'it returns false'. Refute it at one input. -/
def fireLessWrong : ChangeSpec := { name := "fireLess", fn := fun _ => fun
  | [d1, d2, d3, d4, d5] => { results := [.lit (.bool false)], args := [d1, d2, d3, d4, d5] }
  | _ => none }
def FireLessWrongFalsely : Prop := fireLessRow.holds Try.pinned (OpenSpec.ofChange fireLessWrong)

/-- 'pencilworkslaw03.FireStand': WHATEVER THE INPUT: true; the input reads as it did. -/
def fireStandSpec : ChangeSpec := { name := "fireStand", fn := fun _ => fun
  | [d1, d2, d3, d4] => { results := [.lit (.bool true)], args := [d1, d2, d3, d4] }
  | _ => none }
def fireStandRow : OpenClaim := { program := "ytfjkenhmaebpmaa", sum := "ba0d43dd8574af95e243c0fafcfecc170d1308d41a0b8a313b3df8f773bb3b7f", func := "pencilworks/pencilworkslaw03.FireStand", spec := "fireStand", unfollowed := true, recurses := true, plainKeys := false, apart := false }
def FireStandSaid : Prop := fireStandRow.holds Try.pinned (OpenSpec.ofChange fireStandSpec)

/-- ITS FALSE NEIGHBOUR: 'it returns false'. Refute it at one input. -/
def fireStandWrong : ChangeSpec := { name := "fireStand", fn := fun _ => fun
  | [d1, d2, d3, d4] => { results := [.lit (.bool false)], args := [d1, d2, d3, d4] }
  | _ => none }
def FireStandWrongFalsely : Prop := fireStandRow.holds Try.pinned (OpenSpec.ofChange fireStandWrong)

/-- 'pencilworkslaw03.FireOwns': WHATEVER THE INPUT: true; the input reads as it did. -/
def fireOwnsSpec : ChangeSpec := { name := "fireOwns", fn := fun _ => fun
  | [d1, d2, d3, d4] => { results := [.lit (.bool true)], args := [d1, d2, d3, d4] }
  | _ => none }
def fireOwnsRow : OpenClaim := { program := "ytfjkenhmaebpmaa", sum := "ba0d43dd8574af95e243c0fafcfecc170d1308d41a0b8a313b3df8f773bb3b7f", func := "pencilworks/pencilworkslaw03.FireOwns", spec := "fireOwns", unfollowed := true, recurses := true, plainKeys := false, apart := false }
def FireOwnsSaid : Prop := fireOwnsRow.holds Try.pinned (OpenSpec.ofChange fireOwnsSpec)

/-- ITS FALSE NEIGHBOUR: 'it returns false'. Refute it at one input. -/
def fireOwnsWrong : ChangeSpec := { name := "fireOwns", fn := fun _ => fun
  | [d1, d2, d3, d4] => { results := [.lit (.bool false)], args := [d1, d2, d3, d4] }
  | _ => none }
def FireOwnsWrongFalsely : Prop := fireOwnsRow.holds Try.pinned (OpenSpec.ofChange fireOwnsWrong)

/- THE SECOND FORM. 'bulk': how many values and letters a reading holds, each counted each time it is reached (what is shared counts as often as it is met; a slice's spare places count too). A statement '..UptoSaid' is the law's where the arguments, and the package variables that the reading takes, are together of bulk at most 1048576: NARROWER than '..Said'. Prove '..Said' where nothing that the law and all that it calls make is longer than what came in: it says more and counts as full. Else prove '..UptoSaid'. A law counts once. -/
mutual
def uptoBulk {H : Type} : DataW H → Nat
  | .lit (.string bytes) => bytes.length + 1
  | .lit _ => 1
  | .nil => 1
  | .ptr d => uptoBulk d + 1
  | .slice elems spare => uptoBulkAll elems + uptoBulkAll spare + 1
  | .agg parts => uptoBulkAll parts + 1
  | .iface _ d => uptoBulk d + 1
  | .map entries => uptoBulkEntries entries + 1
  | .held _ => 1
def uptoBulkAll {H : Type} : List (DataW H) → Nat
  | [] => 0
  | d :: r => uptoBulk d + uptoBulkAll r
def uptoBulkEntries {H : Type} : List (Lit × DataW H) → Nat
  | [] => 0
  | x :: r => uptoBulkEntry x + uptoBulkEntries r
def uptoBulkEntry {H : Type} : Lit × DataW H → Nat
  | (.string bytes, d) => bytes.length + uptoBulk d + 1
  | (_, d) => uptoBulk d + 1
 end
def uptoSmall : (H : Type) → List (DataW H) → Bool := fun _ ds => decide (uptoBulkAll ds ≤ 1048576)
def OpenSpec.upto (s : _root_.Go.ChangeSpec) : _root_.Go.OpenSpec := { _root_.Go.OpenSpec.ofChange s with cond := some uptoSmall }

/-- 'pencilworkslaw03.FireChecks', WHERE WHAT IT READS IS OF BULK AT MOST 1048576: true; the input reads as it did. -/
def fireChecksUptoRow : OpenClaim := { program := "ytfjkenhmaebpmaa", sum := "ba0d43dd8574af95e243c0fafcfecc170d1308d41a0b8a313b3df8f773bb3b7f", func := "pencilworks/pencilworkslaw03.FireChecks", spec := "fireChecks", unfollowed := true, recurses := true, plainKeys := false, apart := false, narrowed := true }
def FireChecksUptoSaid : Prop := fireChecksUptoRow.holds Try.pinned (OpenSpec.upto fireChecksSpec)

/-- 'pencilworkslaw03.FirePlans', WHERE WHAT IT READS IS OF BULK AT MOST 1048576: true; the input reads as it did. -/
def firePlansUptoRow : OpenClaim := { program := "ytfjkenhmaebpmaa", sum := "ba0d43dd8574af95e243c0fafcfecc170d1308d41a0b8a313b3df8f773bb3b7f", func := "pencilworks/pencilworkslaw03.FirePlans", spec := "firePlans", unfollowed := true, recurses := true, plainKeys := false, apart := false, narrowed := true }
def FirePlansUptoSaid : Prop := firePlansUptoRow.holds Try.pinned (OpenSpec.upto firePlansSpec)

/-- 'pencilworkslaw03.FireStands', WHERE WHAT IT READS IS OF BULK AT MOST 1048576: true; the input reads as it did. -/
def fireStandsUptoRow : OpenClaim := { program := "ytfjkenhmaebpmaa", sum := "ba0d43dd8574af95e243c0fafcfecc170d1308d41a0b8a313b3df8f773bb3b7f", func := "pencilworks/pencilworkslaw03.FireStands", spec := "fireStands", unfollowed := true, recurses := true, plainKeys := false, apart := false, narrowed := true }
def FireStandsUptoSaid : Prop := fireStandsUptoRow.holds Try.pinned (OpenSpec.upto fireStandsSpec)

/-- 'pencilworkslaw03.FireNames', WHERE WHAT IT READS IS OF BULK AT MOST 1048576: true; the input reads as it did. -/
def fireNamesUptoRow : OpenClaim := { program := "ytfjkenhmaebpmaa", sum := "ba0d43dd8574af95e243c0fafcfecc170d1308d41a0b8a313b3df8f773bb3b7f", func := "pencilworks/pencilworkslaw03.FireNames", spec := "fireNames", unfollowed := true, recurses := true, plainKeys := false, apart := false, narrowed := true }
def FireNamesUptoSaid : Prop := fireNamesUptoRow.holds Try.pinned (OpenSpec.upto fireNamesSpec)

/-- 'pencilworkslaw03.FireTrue', WHERE WHAT IT READS IS OF BULK AT MOST 1048576: true; the input reads as it did. -/
def fireTrueUptoRow : OpenClaim := { program := "ytfjkenhmaebpmaa", sum := "ba0d43dd8574af95e243c0fafcfecc170d1308d41a0b8a313b3df8f773bb3b7f", func := "pencilworks/pencilworkslaw03.FireTrue", spec := "fireTrue", unfollowed := true, recurses := true, plainKeys := false, apart := false, narrowed := true }
def FireTrueUptoSaid : Prop := fireTrueUptoRow.holds Try.pinned (OpenSpec.upto fireTrueSpec)

/-- 'pencilworkslaw03.FireEnds', WHERE WHAT IT READS IS OF BULK AT MOST 1048576: true; the input reads as it did. -/
def fireEndsUptoRow : OpenClaim := { program := "ytfjkenhmaebpmaa", sum := "ba0d43dd8574af95e243c0fafcfecc170d1308d41a0b8a313b3df8f773bb3b7f", func := "pencilworks/pencilworkslaw03.FireEnds", spec := "fireEnds", unfollowed := true, recurses := true, plainKeys := false, apart := false, narrowed := true }
def FireEndsUptoSaid : Prop := fireEndsUptoRow.holds Try.pinned (OpenSpec.upto fireEndsSpec)

/-- 'pencilworkslaw03.FirePlan', WHERE WHAT IT READS IS OF BULK AT MOST 1048576: true; the input reads as it did. -/
def firePlanUptoRow : OpenClaim := { program := "ytfjkenhmaebpmaa", sum := "ba0d43dd8574af95e243c0fafcfecc170d1308d41a0b8a313b3df8f773bb3b7f", func := "pencilworks/pencilworkslaw03.FirePlan", spec := "firePlan", unfollowed := true, recurses := true, plainKeys := false, apart := false, narrowed := true }
def FirePlanUptoSaid : Prop := firePlanUptoRow.holds Try.pinned (OpenSpec.upto firePlanSpec)

/-- 'pencilworkslaw03.FireLess', WHERE WHAT IT READS IS OF BULK AT MOST 1048576: true; the input reads as it did. -/
def fireLessUptoRow : OpenClaim := { program := "ytfjkenhmaebpmaa", sum := "ba0d43dd8574af95e243c0fafcfecc170d1308d41a0b8a313b3df8f773bb3b7f", func := "pencilworks/pencilworkslaw03.FireLess", spec := "fireLess", unfollowed := true, recurses := true, plainKeys := false, apart := false, narrowed := true }
def FireLessUptoSaid : Prop := fireLessUptoRow.holds Try.pinned (OpenSpec.upto fireLessSpec)

/-- 'pencilworkslaw03.FireStand', WHERE WHAT IT READS IS OF BULK AT MOST 1048576: true; the input reads as it did. -/
def fireStandUptoRow : OpenClaim := { program := "ytfjkenhmaebpmaa", sum := "ba0d43dd8574af95e243c0fafcfecc170d1308d41a0b8a313b3df8f773bb3b7f", func := "pencilworks/pencilworkslaw03.FireStand", spec := "fireStand", unfollowed := true, recurses := true, plainKeys := false, apart := false, narrowed := true }
def FireStandUptoSaid : Prop := fireStandUptoRow.holds Try.pinned (OpenSpec.upto fireStandSpec)

/-- 'pencilworkslaw03.FireOwns', WHERE WHAT IT READS IS OF BULK AT MOST 1048576: true; the input reads as it did. -/
def fireOwnsUptoRow : OpenClaim := { program := "ytfjkenhmaebpmaa", sum := "ba0d43dd8574af95e243c0fafcfecc170d1308d41a0b8a313b3df8f773bb3b7f", func := "pencilworks/pencilworkslaw03.FireOwns", spec := "fireOwns", unfollowed := true, recurses := true, plainKeys := false, apart := false, narrowed := true }
def FireOwnsUptoSaid : Prop := fireOwnsUptoRow.holds Try.pinned (OpenSpec.upto fireOwnsSpec)

end Rows
end Go.Proofs.Ytfjkenhmaebpmaa
