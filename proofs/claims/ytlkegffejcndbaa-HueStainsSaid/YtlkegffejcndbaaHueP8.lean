/-
  Chapter 8: HueStains returns true for every input.
-/
import Derived.Test.YtlkegffejcndbaaHueP7
import Derived.Test.YtlkegffejcndbaaSxY
import Derived.Test.YtlkegffejcndbaaRows
import Derived.ProofKit
set_option linter.all false
set_option maxRecDepth 100000
namespace Go.Hue
open Go Go.Sx Go.Proofs.Ytlkegffejcndbaa

theorem own : ownKnob Go.Proofs.Try.prog.godebug = none := by kernel_rfl
theorem laid : laidOutB Go.Proofs.Try.prog = true := by kernel_rfl
theorem heavy : T.heavy Go.Proofs.Try.prog = true := by kernel_rfl
theorem bool4 : Go.Proofs.Try.prog.underlying 4 = some .bool := by kernel_rfl
abbrev iv (n : Int) : Value := .int .i64 n
theorem hueStains_lifted (os : Os) (started : os.Started) (H : Type) (enc : TypeId × Value → H) :
    ReturnsInHanded {} Go.Proofs.Try.checked os 3 .any (Rows.hueStainsSpec.pre6 enc Go.Proofs.Try.prog Go.Proofs.Try.f3 Rows.hueStainsRow.domain false) (Rows.hueStainsSpec.post enc Go.Proofs.Try.prog Go.Proofs.Try.f3 false true false false) := by
  refine returnsInHanded_of_change_sized (C := Go.Proofs.Try.checked) own started (by kernel_rfl) (show Go.Proofs.Try.prog.funcs[3]? = some Go.Proofs.Try.f3 from by kernel_rfl)
    (ChangeSpec.witness6 (enc := enc) (C := Go.Proofs.Try.checked) false ⟨#[], #[.agg #[iv 0, iv 0, iv 0, iv 0, iv 0], .slice none 0 0, .slice none 0 0, iv 0, iv 0], []⟩ 8 (by kernel_rfl) (by kernel_rfl) (by kernel_rfl) (by kernel_rfl)) ?_
  intro W base args ds gs before hval hW _ hwt _
  exact row_calls (args := k3.args) (pre := law08u_HueStains_p) (val := law08u_HueStains) h3 (fun _ => trivial) (fun _ => rfl) tabs_ok heavy laid (by kernel_rfl) (by kernel_rfl) (B := 4) (by kernel_rfl) bool4 (by kernel_rfl)
    (fun ds hd => by
      match ds, hd with
      | [_, _, _, _, _], _ => rfl) hval hW hwt
theorem hueStains_said : Rows.HueStainsSaid :=
  OpenClaim.holds_of_wide 3 Go.Proofs.Try.f3 rfl rfl rfl rfl rfl rfl rfl ⟨rfl, rfl, rfl, rfl, rfl⟩ rfl rfl rfl rfl rfl (by kernel_rfl) (show Go.Proofs.Try.prog.funcs[3]? = some Go.Proofs.Try.f3 from by kernel_rfl) (by kernel_rfl)
    (of_decide_eq_true (by kernel_rfl)) (by unfold Func.isWrapper; first | (rw [if_pos (by decide +kernel)]; kernel_rfl) | (rw [if_neg (by decide +kernel)]; exact ⟨rfl, rfl⟩))
    (fun os started H enc _ => hueStains_lifted os started H enc)
end Go.Hue
namespace Go.Proofs.Ytlkegffejcndbaa
/-- HueStains returns true for every input, and leaves its arguments as they were. -/
theorem hueStains_holds : Rows.HueStainsSaid := Go.Hue.hueStains_said
end Go.Proofs.Ytlkegffejcndbaa
