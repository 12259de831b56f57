/-
  DieMore returns true for every input, and leaves its arguments as they were.
-/
import Derived.Test.YtihkgphflgojeaaDieQ1
import Derived.Test.YtihkgphflgojeaaSH
import Derived.Test.YtihkgphflgojeaaRows
import Derived.ProofKit
set_option linter.all false


set_option maxRecDepth 100000
namespace Go.Die
open Go Go.Sx Go.Proofs.Ytihkgphflgojeaa

theorem own : ownKnob Go.Proofs.Try.prog.godebug = none := by kernel_rfl
theorem laid : laidOutB Go.Proofs.Try.prog = true := by kernel_rfl
theorem heavy : T3.heavy Go.Proofs.Try.prog = true := by kernel_rfl
theorem bool4 : Go.Proofs.Try.prog.underlying 4 = some .bool := by kernel_rfl
theorem h8 : Sx.Good Go.Proofs.Try.prog 8 k8 := con_of mixed (show Go.Proofs.Try.prog.funcs[8]? = some Go.Proofs.Try.f8 from by kernel_rfl) (by kernel_rfl) fun x hp => ⟨cx8, withHld_ok (mkCxN_ok tabs_ok3 ⟨h9, h20, h21, h10, trivial⟩ trivial trivial ⟨h18, h15, trivial⟩), by kernel_rfl, by kernel_rfl, by rw [e8]; exact v8 x hp⟩
abbrev iv (n : Int) : Value := .int .i64 n
abbrev nl : Value := .slice none 0 0
theorem lifted (os : Os) (started : os.Started) (H : Type) (enc : TypeId × Value → H) :
    ReturnsInHanded {} Go.Proofs.Try.checked os 8 .any (Rows.dieMoreSpec.pre6 enc Go.Proofs.Try.prog Go.Proofs.Try.f8 Rows.dieMoreRow.domain false) (Rows.dieMoreSpec.post enc Go.Proofs.Try.prog Go.Proofs.Try.f8 false true false false) := by
  refine returnsInHanded_of_change_sized (C := Go.Proofs.Try.checked) own started (by kernel_rfl) (show Go.Proofs.Try.prog.funcs[8]? = some Go.Proofs.Try.f8 from by kernel_rfl)
    (ChangeSpec.witness6 (enc := enc) (C := Go.Proofs.Try.checked) false ⟨#[], #[.agg #[nl, iv 0, iv 0, iv 0], nl, .agg #[iv 0, iv 0, iv 0], .int .u8 0, .int .u8 0], []⟩ 8 (by kernel_rfl) (by kernel_rfl) (by kernel_rfl) (by kernel_rfl)) ?_
  intro W base args ds gs before hval hW _ hwt _
  exact row_calls (args := k8.args) (pre := law04u_DieMore_p) (val := law04u_DieMore) h8 (fun _ hf => hf.2.2.2) (fun _ => rfl) tabs_ok3 heavy laid (by kernel_rfl) (by kernel_rfl) (B := 4) (by kernel_rfl) bool4 (by kernel_rfl)
    (fun ds hd => by
      match ds, hd with
      | [_, _, _, _, _], _ => rfl) hval hW hwt
theorem said : Rows.DieMoreSaid :=
  OpenClaim.holds_of_wide 8 Go.Proofs.Try.f8 rfl rfl rfl rfl rfl rfl rfl ⟨rfl, rfl, rfl, rfl, rfl⟩ rfl rfl rfl rfl rfl (by kernel_rfl) (show Go.Proofs.Try.prog.funcs[8]? = some Go.Proofs.Try.f8 from by kernel_rfl) (by kernel_rfl)
    (of_decide_eq_true (by kernel_rfl)) (by unfold Func.isWrapper; first | (rw [if_pos (by decide +kernel)]; kernel_rfl) | (rw [if_neg (by decide +kernel)]; exact ⟨rfl, rfl⟩))
    (fun os started H enc _ => lifted os started H enc)
end Go.Die
namespace Go.Proofs.Ytihkgphflgojeaa
/-- DieMore returns true for every input, and leaves its arguments as they were. -/
theorem dieMore_holds : Rows.DieMoreSaid := Go.Die.said
end Go.Proofs.Ytihkgphflgojeaa
