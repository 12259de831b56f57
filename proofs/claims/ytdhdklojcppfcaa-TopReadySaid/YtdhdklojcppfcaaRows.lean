/-
  No cell of these rows narrows 'for every input' (looked for: loops, veiled, ifaces, maps, wideKeys, modest, calm, conditions, laid).
  DERIVED. THE GIVEN ROWS OF THIS SEAT. 6 by the template 'for every input the law returns true; each argument reads behind the call as it read before'; 0 by the template 'total and deterministic' (their statements: YtdhdklojcppfcaaTotals.lean).
  GIVEN WITH THE SEED: the statements are not yours to turn. If you find one false, say at which input.
  Laid BY PROGRAM, IN A SANDBOX (cutbox-rows.mjs): the forced cells as the released guide's own fill.sh prints them over the translation 1fd7c44c25d9488b… (all of the seat's roots in one cut). By AI agents, Wed Nov 11 2026. No macro, syntax, notation, axiom, sorry.
-/
import Derived.Test.YtdhdklojcppfcaaChecked
import GoSem.Claim
import GoSem.ClaimJoined
import GoSem.ClaimMapViews
import Derived.JoinedTies
import Derived.KernelRfl
namespace Go.Proofs.Ytdhdklojcppfcaa
/- THE CELL 'sum', in the pinned program and in every row, IS THE sha256 OF THE DUMP (.gsa) THAT YtdhdklojcppfcaaProg.lean LOADS. Nothing in Lean hashes anything: it is a label: what it is worth is what the hold of that sum in a sandbox is worth. -/
noncomputable def Try.pinned : Pinned := { name := "ytdhdklojcppfcaa", sum := "1fd7c44c25d9488bd6ed80d07e807f23780e6456a32d0015df8c3ba0d423ce56", checked := Try.checked }
namespace Rows
def none {H : Type} : Left H := { results := [], args := [] }

/-- 'pencilworkstop.TopBlack': WHATEVER THE INPUT: true; the input reads as it did. -/
def topBlackSpec : ChangeSpec := { name := "topBlack", fn := fun _ => fun
  | [d1, d2, d3, d4, d5] => { results := [.lit (.bool true)], args := [d1, d2, d3, d4, d5] }
  | _ => none }
def topBlackRow : OpenClaim := { program := "ytdhdklojcppfcaa", sum := "1fd7c44c25d9488bd6ed80d07e807f23780e6456a32d0015df8c3ba0d423ce56", func := "pencilworks/pencilworkstop.TopBlack", spec := "topBlack", unfollowed := true, recurses := true, apart := false }
def TopBlackSaid : Prop := topBlackRow.holds Try.pinned (OpenSpec.ofChange topBlackSpec)

/-- ITS FALSE NEIGHBOUR: 'it returns false'. Refute it at one input. -/
def topBlackWrong : ChangeSpec := { name := "topBlack", fn := fun _ => fun
  | [d1, d2, d3, d4, d5] => { results := [.lit (.bool false)], args := [d1, d2, d3, d4, d5] }
  | _ => none }
def TopBlackWrongFalsely : Prop := topBlackRow.holds Try.pinned (OpenSpec.ofChange topBlackWrong)

/-- 'pencilworkstop.TopFill': WHATEVER THE INPUT: true; the input reads as it did. -/
def topFillSpec : ChangeSpec := { name := "topFill", fn := fun _ => fun
  | [d1, d2, d3, d4] => { results := [.lit (.bool true)], args := [d1, d2, d3, d4] }
  | _ => none }
def topFillRow : OpenClaim := { program := "ytdhdklojcppfcaa", sum := "1fd7c44c25d9488bd6ed80d07e807f23780e6456a32d0015df8c3ba0d423ce56", func := "pencilworks/pencilworkstop.TopFill", spec := "topFill", unfollowed := true, recurses := true, apart := false }
def TopFillSaid : Prop := topFillRow.holds Try.pinned (OpenSpec.ofChange topFillSpec)

/-- ITS FALSE NEIGHBOUR: 'it returns false'. Refute it at one input. -/
def topFillWrong : ChangeSpec := { name := "topFill", fn := fun _ => fun
  | [d1, d2, d3, d4] => { results := [.lit (.bool false)], args := [d1, d2, d3, d4] }
  | _ => none }
def TopFillWrongFalsely : Prop := topFillRow.holds Try.pinned (OpenSpec.ofChange topFillWrong)

/-- 'pencilworkstop.TopFast': WHATEVER THE INPUT: true; the input reads as it did. -/
def topFastSpec : ChangeSpec := { name := "topFast", fn := fun _ => fun
  | [d1, d2, d3] => { results := [.lit (.bool true)], args := [d1, d2, d3] }
  | _ => none }
def topFastRow : OpenClaim := { program := "ytdhdklojcppfcaa", sum := "1fd7c44c25d9488bd6ed80d07e807f23780e6456a32d0015df8c3ba0d423ce56", func := "pencilworks/pencilworkstop.TopFast", spec := "topFast", unfollowed := true, recurses := true, apart := false }
def TopFastSaid : Prop := topFastRow.holds Try.pinned (OpenSpec.ofChange topFastSpec)

/-- ITS FALSE NEIGHBOUR: 'it returns false'. Refute it at one input. -/
def topFastWrong : ChangeSpec := { name := "topFast", fn := fun _ => fun
  | [d1, d2, d3] => { results := [.lit (.bool false)], args := [d1, d2, d3] }
  | _ => none }
def TopFastWrongFalsely : Prop := topFastRow.holds Try.pinned (OpenSpec.ofChange topFastWrong)

/-- 'pencilworkstop.TopSold': WHATEVER THE INPUT: true; the input reads as it did. -/
def topSoldSpec : ChangeSpec := { name := "topSold", fn := fun _ => fun
  | [d1, d2, d3, d4] => { results := [.lit (.bool true)], args := [d1, d2, d3, d4] }
  | _ => none }
def topSoldRow : OpenClaim := { program := "ytdhdklojcppfcaa", sum := "1fd7c44c25d9488bd6ed80d07e807f23780e6456a32d0015df8c3ba0d423ce56", func := "pencilworks/pencilworkstop.TopSold", spec := "topSold", unfollowed := true, recurses := true, apart := false }
def TopSoldSaid : Prop := topSoldRow.holds Try.pinned (OpenSpec.ofChange topSoldSpec)

/-- ITS FALSE NEIGHBOUR: 'it returns false'. Refute it at one input. -/
def topSoldWrong : ChangeSpec := { name := "topSold", fn := fun _ => fun
  | [d1, d2, d3, d4] => { results := [.lit (.bool false)], args := [d1, d2, d3, d4] }
  | _ => none }
def TopSoldWrongFalsely : Prop := topSoldRow.holds Try.pinned (OpenSpec.ofChange topSoldWrong)

/-- 'pencilworkstop.TopSale': WHATEVER THE INPUT: true; the input reads as it did. -/
def topSaleSpec : ChangeSpec := { name := "topSale", fn := fun _ => fun
  | [d1, d2, d3] => { results := [.lit (.bool true)], args := [d1, d2, d3] }
  | _ => none }
def topSaleRow : OpenClaim := { program := "ytdhdklojcppfcaa", sum := "1fd7c44c25d9488bd6ed80d07e807f23780e6456a32d0015df8c3ba0d423ce56", func := "pencilworks/pencilworkstop.TopSale", spec := "topSale", unfollowed := true, recurses := true, apart := false }
def TopSaleSaid : Prop := topSaleRow.holds Try.pinned (OpenSpec.ofChange topSaleSpec)

/-- ITS FALSE NEIGHBOUR: 'it returns false'. Refute it at one input. -/
def topSaleWrong : ChangeSpec := { name := "topSale", fn := fun _ => fun
  | [d1, d2, d3] => { results := [.lit (.bool false)], args := [d1, d2, d3] }
  | _ => none }
def TopSaleWrongFalsely : Prop := topSaleRow.holds Try.pinned (OpenSpec.ofChange topSaleWrong)

/-- 'pencilworkstop.TopReady': WHATEVER THE INPUT: true; the input reads as it did. -/
def topReadySpec : ChangeSpec := { name := "topReady", fn := fun _ => fun
  | [d1, d2] => { results := [.lit (.bool true)], args := [d1, d2] }
  | _ => none }
def topReadyRow : OpenClaim := { program := "ytdhdklojcppfcaa", sum := "1fd7c44c25d9488bd6ed80d07e807f23780e6456a32d0015df8c3ba0d423ce56", func := "pencilworks/pencilworkstop.TopReady", spec := "topReady", unfollowed := true, recurses := true, apart := false }
def TopReadySaid : Prop := topReadyRow.holds Try.pinned (OpenSpec.ofChange topReadySpec)

/-- ITS FALSE NEIGHBOUR: 'it returns false'. Refute it at one input. -/
def topReadyWrong : ChangeSpec := { name := "topReady", fn := fun _ => fun
  | [d1, d2] => { results := [.lit (.bool false)], args := [d1, d2] }
  | _ => none }
def TopReadyWrongFalsely : Prop := topReadyRow.holds Try.pinned (OpenSpec.ofChange topReadyWrong)

/- THE SECOND FORM. 'bulk': how many values and letters a reading holds, each counted each time it is reached (what is shared counts as often as it is met; a slice's spare places count too). A statement '..UptoSaid' is the law's where the arguments, and the package variables that the reading takes, are together of bulk at most 1048576: NARROWER than '..Said'. Prove '..Said' where nothing that the law and all that it calls make is longer than what came in: it says more and counts as full. Else prove '..UptoSaid'. A law counts once. -/
mutual
def uptoBulk {H : Type} : DataW H → Nat
  | .lit (.string bytes) => bytes.length + 1
  | .lit _ => 1
  | .nil => 1
  | .ptr d => uptoBulk d + 1
  | .slice elems spare => uptoBulkAll elems + uptoBulkAll spare + 1
  | .agg parts => uptoBulkAll parts + 1
  | .iface _ d => uptoBulk d + 1
  | .map entries => uptoBulkEntries entries + 1
  | .held _ => 1
def uptoBulkAll {H : Type} : List (DataW H) → Nat
  | [] => 0
  | d :: r => uptoBulk d + uptoBulkAll r
def uptoBulkEntries {H : Type} : List (Lit × DataW H) → Nat
  | [] => 0
  | x :: r => uptoBulkEntry x + uptoBulkEntries r
def uptoBulkEntry {H : Type} : Lit × DataW H → Nat
  | (.string bytes, d) => bytes.length + uptoBulk d + 1
  | (_, d) => uptoBulk d + 1
 end
def uptoSmall : (H : Type) → List (DataW H) → Bool := fun _ ds => decide (uptoBulkAll ds ≤ 1048576)
def OpenSpec.upto (s : _root_.Go.ChangeSpec) : _root_.Go.OpenSpec := { _root_.Go.OpenSpec.ofChange s with cond := some uptoSmall }

/-- 'pencilworkstop.TopBlack', WHERE WHAT IT READS IS OF BULK AT MOST 1048576: true; the input reads as it did. -/
def topBlackUptoRow : OpenClaim := { program := "ytdhdklojcppfcaa", sum := "1fd7c44c25d9488bd6ed80d07e807f23780e6456a32d0015df8c3ba0d423ce56", func := "pencilworks/pencilworkstop.TopBlack", spec := "topBlack", unfollowed := true, recurses := true, apart := false, narrowed := true }
def TopBlackUptoSaid : Prop := topBlackUptoRow.holds Try.pinned (OpenSpec.upto topBlackSpec)

/-- 'pencilworkstop.TopFill', WHERE WHAT IT READS IS OF BULK AT MOST 1048576: true; the input reads as it did. -/
def topFillUptoRow : OpenClaim := { program := "ytdhdklojcppfcaa", sum := "1fd7c44c25d9488bd6ed80d07e807f23780e6456a32d0015df8c3ba0d423ce56", func := "pencilworks/pencilworkstop.TopFill", spec := "topFill", unfollowed := true, recurses := true, apart := false, narrowed := true }
def TopFillUptoSaid : Prop := topFillUptoRow.holds Try.pinned (OpenSpec.upto topFillSpec)

/-- 'pencilworkstop.TopFast', WHERE WHAT IT READS IS OF BULK AT MOST 1048576: true; the input reads as it did. -/
def topFastUptoRow : OpenClaim := { program := "ytdhdklojcppfcaa", sum := "1fd7c44c25d9488bd6ed80d07e807f23780e6456a32d0015df8c3ba0d423ce56", func := "pencilworks/pencilworkstop.TopFast", spec := "topFast", unfollowed := true, recurses := true, apart := false, narrowed := true }
def TopFastUptoSaid : Prop := topFastUptoRow.holds Try.pinned (OpenSpec.upto topFastSpec)

/-- 'pencilworkstop.TopSold', WHERE WHAT IT READS IS OF BULK AT MOST 1048576: true; the input reads as it did. -/
def topSoldUptoRow : OpenClaim := { program := "ytdhdklojcppfcaa", sum := "1fd7c44c25d9488bd6ed80d07e807f23780e6456a32d0015df8c3ba0d423ce56", func := "pencilworks/pencilworkstop.TopSold", spec := "topSold", unfollowed := true, recurses := true, apart := false, narrowed := true }
def TopSoldUptoSaid : Prop := topSoldUptoRow.holds Try.pinned (OpenSpec.upto topSoldSpec)

/-- 'pencilworkstop.TopSale', WHERE WHAT IT READS IS OF BULK AT MOST 1048576: true; the input reads as it did. -/
def topSaleUptoRow : OpenClaim := { program := "ytdhdklojcppfcaa", sum := "1fd7c44c25d9488bd6ed80d07e807f23780e6456a32d0015df8c3ba0d423ce56", func := "pencilworks/pencilworkstop.TopSale", spec := "topSale", unfollowed := true, recurses := true, apart := false, narrowed := true }
def TopSaleUptoSaid : Prop := topSaleUptoRow.holds Try.pinned (OpenSpec.upto topSaleSpec)

/-- 'pencilworkstop.TopReady', WHERE WHAT IT READS IS OF BULK AT MOST 1048576: true; the input reads as it did. -/
def topReadyUptoRow : OpenClaim := { program := "ytdhdklojcppfcaa", sum := "1fd7c44c25d9488bd6ed80d07e807f23780e6456a32d0015df8c3ba0d423ce56", func := "pencilworks/pencilworkstop.TopReady", spec := "topReady", unfollowed := true, recurses := true, apart := false, narrowed := true }
def TopReadyUptoSaid : Prop := topReadyUptoRow.holds Try.pinned (OpenSpec.upto topReadySpec)

end Rows
end Go.Proofs.Ytdhdklojcppfcaa
