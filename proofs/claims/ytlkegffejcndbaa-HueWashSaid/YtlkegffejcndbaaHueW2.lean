/-
  HueWash returns true for every input, and leaves its arguments as they were.
-/
import Derived.Test.YtlkegffejcndbaaHueW1
import Derived.Test.YtlkegffejcndbaaSxY
import Derived.Test.YtlkegffejcndbaaRows
import Derived.ProofKit
set_option linter.all false
set_option maxRecDepth 100000
namespace Go.Hue
open Go Go.Sx Go.Proofs.Ytlkegffejcndbaa

theorem own : ownKnob Go.Proofs.Try.prog.godebug = none := by kernel_rfl
theorem laid : laidOutB Go.Proofs.Try.prog = true := by kernel_rfl
theorem heavy : T.heavy Go.Proofs.Try.prog = true := by kernel_rfl
theorem bool4 : Go.Proofs.Try.prog.underlying 4 = some .bool := by kernel_rfl
theorem h7 : Sx.Good Go.Proofs.Try.prog 7 k7 := con_of mixed (show Go.Proofs.Try.prog.funcs[7]? = some Go.Proofs.Try.f7 from by kernel_rfl) (by kernel_rfl) fun x hp => ⟨cx7, mkCx_ok tabs_ok ⟨h10, h11, h16, h22, h14, trivial⟩ trivial trivial, by kernel_rfl, by kernel_rfl, by rw [e7]; exact v7 x hp⟩
abbrev iv (n : Int) : Value := .int .i64 n
abbrev nl : Value := .slice none 0 0
theorem lifted (os : Os) (started : os.Started) (H : Type) (enc : TypeId × Value → H) :
    ReturnsInHanded {} Go.Proofs.Try.checked os 7 .any (Rows.hueWashSpec.pre6 enc Go.Proofs.Try.prog Go.Proofs.Try.f7 Rows.hueWashRow.domain false) (Rows.hueWashSpec.post enc Go.Proofs.Try.prog Go.Proofs.Try.f7 false true false false) := by
  refine returnsInHanded_of_change_sized (C := Go.Proofs.Try.checked) own started (by kernel_rfl) (show Go.Proofs.Try.prog.funcs[7]? = some Go.Proofs.Try.f7 from by kernel_rfl)
    (ChangeSpec.witness6 (enc := enc) (C := Go.Proofs.Try.checked) false ⟨#[], #[.agg #[iv 0, iv 0, iv 0, iv 0, iv 0], nl, iv 0, iv 0], []⟩ 8 (by kernel_rfl) (by kernel_rfl) (by kernel_rfl) (by kernel_rfl)) ?_
  intro W base args ds gs before hval hW _ hwt _
  exact row_calls (args := k7.args) (pre := law08u_HueWash_p) (val := law08u_HueWash) h7 (fun _ => trivial) (fun _ => rfl) tabs_ok heavy laid (by kernel_rfl) (by kernel_rfl) (B := 4) (by kernel_rfl) bool4 (by kernel_rfl)
    (fun ds hd => by
      match ds, hd with
      | [_, _, _, _], _ => rfl) hval hW hwt
theorem said : Rows.HueWashSaid :=
  OpenClaim.holds_of_wide 7 Go.Proofs.Try.f7 rfl rfl rfl rfl rfl rfl rfl ⟨rfl, rfl, rfl, rfl, rfl⟩ rfl rfl rfl rfl rfl (by kernel_rfl) (show Go.Proofs.Try.prog.funcs[7]? = some Go.Proofs.Try.f7 from by kernel_rfl) (by kernel_rfl)
    (of_decide_eq_true (by kernel_rfl)) (by unfold Func.isWrapper; first | (rw [if_pos (by decide +kernel)]; kernel_rfl) | (rw [if_neg (by decide +kernel)]; exact ⟨rfl, rfl⟩))
    (fun os started H enc _ => lifted os started H enc)
end Go.Hue
namespace Go.Proofs.Ytlkegffejcndbaa
/-- HueWash returns true for every input, and leaves its arguments as they were. -/
theorem hueWash_holds : Rows.HueWashSaid := Go.Hue.said
end Go.Proofs.Ytlkegffejcndbaa
