/-
  DieTrue returns true for every input, and leaves its arguments as they were.
-/
import Derived.Test.YtihkgphflgojeaaDieU1
import Derived.Test.YtihkgphflgojeaaSH
import Derived.Test.YtihkgphflgojeaaRows
import Derived.ProofKit
set_option linter.all false


set_option maxRecDepth 100000
namespace Go.Die
open Go Go.Sx Go.Proofs.Ytihkgphflgojeaa

theorem own : ownKnob Go.Proofs.Try.prog.godebug = none := by kernel_rfl
theorem laid : laidOutB Go.Proofs.Try.prog = true := by kernel_rfl
theorem heavy : T2.heavy Go.Proofs.Try.prog = true := by kernel_rfl
theorem bool4 : Go.Proofs.Try.prog.underlying 4 = some .bool := by kernel_rfl
theorem h23 : Sx.Good Go.Proofs.Try.prog 23 k23 := con_of mixed (show Go.Proofs.Try.prog.funcs[23]? = some Go.Proofs.Try.f23 from by kernel_rfl) (by kernel_rfl) fun x hp => ⟨cx23, mkCx_ok tabs_ok2 trivial trivial trivial, by kernel_rfl, by kernel_rfl, by rw [e23]; exact v23 x hp⟩
theorem h22 : Sx.Good Go.Proofs.Try.prog 22 k22 := con_of mixed (show Go.Proofs.Try.prog.funcs[22]? = some Go.Proofs.Try.f22 from by kernel_rfl) (by kernel_rfl) fun x hp => ⟨cx22, mkCx_ok tabs_ok2 trivial trivial trivial, by kernel_rfl, by kernel_rfl, by rw [e22]; exact v22 x hp⟩
theorem h5 : Sx.Good Go.Proofs.Try.prog 5 k5 := con_of mixed (show Go.Proofs.Try.prog.funcs[5]? = some Go.Proofs.Try.f5 from by kernel_rfl) (by kernel_rfl) fun x hp => ⟨cx5, mkCxN_ok tabs_ok2 ⟨h9, h20, h21, h10, h22, h23, h11, h17, trivial⟩ trivial trivial ⟨h18, h15, trivial⟩, by kernel_rfl, by kernel_rfl, by rw [e5]; exact v5 x hp⟩
abbrev iv (n : Int) : Value := .int .i64 n
abbrev nl : Value := .slice none 0 0
theorem lifted (os : Os) (started : os.Started) (H : Type) (enc : TypeId × Value → H) :
    ReturnsInHanded {} Go.Proofs.Try.checked os 5 .any (Rows.dieTrueSpec.pre6 enc Go.Proofs.Try.prog Go.Proofs.Try.f5 Rows.dieTrueRow.domain false) (Rows.dieTrueSpec.post enc Go.Proofs.Try.prog Go.Proofs.Try.f5 false true false false) := by
  refine returnsInHanded_of_change_sized (C := Go.Proofs.Try.checked) own started (by kernel_rfl) (show Go.Proofs.Try.prog.funcs[5]? = some Go.Proofs.Try.f5 from by kernel_rfl)
    (ChangeSpec.witness6 (enc := enc) (C := Go.Proofs.Try.checked) false ⟨#[], #[.agg #[nl, iv 0, iv 0, iv 0], nl, nl], []⟩ 8 (by kernel_rfl) (by kernel_rfl) (by kernel_rfl) (by kernel_rfl)) ?_
  intro W base args ds gs before hval hW _ hwt _
  exact row_calls (args := k5.args) (pre := law04u_DieTrue_p) (val := law04u_DieTrue) h5 (fun _ hf => ⟨fun b hb => hf.2.2.2 b hb, hf.2.2.1⟩) (fun _ => rfl) tabs_ok2 heavy laid (by kernel_rfl) (by kernel_rfl) (B := 4) (by kernel_rfl) bool4 (by kernel_rfl)
    (fun ds hd => by
      match ds, hd with
      | [_, _, _], _ => rfl) hval hW hwt
theorem said : Rows.DieTrueSaid :=
  OpenClaim.holds_of_wide 5 Go.Proofs.Try.f5 rfl rfl rfl rfl rfl rfl rfl ⟨rfl, rfl, rfl, rfl, rfl⟩ rfl rfl rfl rfl rfl (by kernel_rfl) (show Go.Proofs.Try.prog.funcs[5]? = some Go.Proofs.Try.f5 from by kernel_rfl) (by kernel_rfl)
    (of_decide_eq_true (by kernel_rfl)) (by unfold Func.isWrapper; first | (rw [if_pos (by decide +kernel)]; kernel_rfl) | (rw [if_neg (by decide +kernel)]; exact ⟨rfl, rfl⟩))
    (fun os started H enc _ => lifted os started H enc)
end Go.Die
namespace Go.Proofs.Ytihkgphflgojeaa
/-- DieTrue returns true for every input, and leaves its arguments as they were. -/
theorem dieTrue_holds : Rows.DieTrueSaid := Go.Die.said
end Go.Proofs.Ytihkgphflgojeaa
