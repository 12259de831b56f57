/-
  TopFuel returns true for every input, and leaves its arguments as they were.
-/
import Derived.Test.YtpdnhclkelgecaaFuelH1
import Derived.Test.YtpdnhclkelgecaaSH
import Derived.Test.YtpdnhclkelgecaaRows
import Derived.ProofKit
set_option linter.all false


set_option maxRecDepth 100000
namespace Go.Fuel
open Go Go.Sx Go.Proofs.Ytpdnhclkelgecaa

theorem own : ownKnob Go.Proofs.Try.prog.godebug = none := by kernel_rfl
theorem laid : laidOutB Go.Proofs.Try.prog = true := by kernel_rfl
theorem heavy : T.heavy Go.Proofs.Try.prog = true := by kernel_rfl
theorem bool4 : Go.Proofs.Try.prog.underlying 4 = some .bool := by kernel_rfl
abbrev iv (n : Int) : Value := .int .i64 n
abbrev nl : Value := .slice none 0 0
theorem lifted (os : Os) (started : os.Started) (H : Type) (enc : TypeId × Value → H) :
    ReturnsInHanded {} Go.Proofs.Try.checked os 3 .any (Rows.topFuelSpec.pre6 enc Go.Proofs.Try.prog Go.Proofs.Try.f3 Rows.topFuelRow.domain false) (Rows.topFuelSpec.post enc Go.Proofs.Try.prog Go.Proofs.Try.f3 false true false false) := by
  refine returnsInHanded_of_change_sized (C := Go.Proofs.Try.checked) own started (by kernel_rfl) (show Go.Proofs.Try.prog.funcs[3]? = some Go.Proofs.Try.f3 from by kernel_rfl)
    (ChangeSpec.witness6 (enc := enc) (C := Go.Proofs.Try.checked) false ⟨#[], #[.agg #[nl, iv 0, iv 0, iv 0], .agg #[iv 0, iv 0, iv 0, iv 0, iv 0, iv 0], nl, .agg #[iv 0, iv 0, iv 0, iv 0, iv 0, iv 0, iv 0], nl], []⟩ 8 (by kernel_rfl) (by kernel_rfl) (by kernel_rfl) (by kernel_rfl)) ?_
  intro W base args ds gs before hval hW _ hwt _
  exact row_calls (args := k3.args) (pre := top_TopFuel_p) (val := top_TopFuel) h3 (fun _ hf => ⟨fun b hb => hf.2.2.2.2.2 b hb, hf.2.2.2.2.1, hf.1.1.1, hf.2.2.1.1⟩) (fun _ => rfl) tabs_ok heavy laid (by kernel_rfl) (by kernel_rfl) (B := 4) (by kernel_rfl) bool4 (by kernel_rfl)
    (fun ds hd => by
      match ds, hd with
      | [_, _, _, _, _], _ => rfl) hval hW hwt
theorem said : Rows.TopFuelSaid :=
  OpenClaim.holds_of_wide 3 Go.Proofs.Try.f3 rfl rfl rfl rfl rfl rfl rfl ⟨rfl, rfl, rfl, rfl, rfl⟩ rfl rfl rfl rfl rfl (by kernel_rfl) (show Go.Proofs.Try.prog.funcs[3]? = some Go.Proofs.Try.f3 from by kernel_rfl) (by kernel_rfl)
    (of_decide_eq_true (by kernel_rfl)) (by unfold Func.isWrapper; first | (rw [if_pos (by decide +kernel)]; kernel_rfl) | (rw [if_neg (by decide +kernel)]; exact ⟨rfl, rfl⟩))
    (fun os started H enc _ => lifted os started H enc)
end Go.Fuel
namespace Go.Proofs.Ytpdnhclkelgecaa
/-- TopFuel returns true for every input, and leaves its arguments as they were. -/
theorem topFuel_holds : Rows.TopFuelSaid := Go.Fuel.said
end Go.Proofs.Ytpdnhclkelgecaa
