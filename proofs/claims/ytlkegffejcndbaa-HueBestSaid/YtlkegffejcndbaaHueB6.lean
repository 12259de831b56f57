/-
  HueBest returns true for every input, and leaves its arguments as they were.
-/
import Derived.Test.YtlkegffejcndbaaHueB5
import Derived.Test.YtlkegffejcndbaaSH
import Derived.Test.YtlkegffejcndbaaRows
import Derived.ProofKit
set_option linter.all false


set_option maxRecDepth 100000
namespace Go.Hue
open Go Go.Sx Go.Proofs.Ytlkegffejcndbaa

theorem own : ownKnob Go.Proofs.Try.prog.godebug = none := by kernel_rfl
theorem laid : laidOutB Go.Proofs.Try.prog = true := by kernel_rfl
theorem heavy : T2.heavy Go.Proofs.Try.prog = true := by kernel_rfl
theorem bool4 : Go.Proofs.Try.prog.underlying 4 = some .bool := by kernel_rfl
theorem h28 : Sx.Good Go.Proofs.Try.prog 28 k28 := con_of mixed (show Go.Proofs.Try.prog.funcs[28]? = some Go.Proofs.Try.f28 from by kernel_rfl) (by kernel_rfl) fun x hp => ⟨cx28, mkCx_ok tabs_ok2 ⟨h12, h14, trivial⟩ trivial trivial, by kernel_rfl, by kernel_rfl, by rw [e28]; exact v28 x hp⟩
theorem h27 : Sx.Good Go.Proofs.Try.prog 27 k27 := con_of mixed (show Go.Proofs.Try.prog.funcs[27]? = some Go.Proofs.Try.f27 from by kernel_rfl) (by kernel_rfl) fun x hp => ⟨cx27, mkCx_ok tabs_ok2 trivial trivial trivial, by kernel_rfl, by kernel_rfl, by rw [e27]; exact v27 x hp⟩
theorem h8 : Sx.Good Go.Proofs.Try.prog 8 k8 := con_of mixed (show Go.Proofs.Try.prog.funcs[8]? = some Go.Proofs.Try.f8 from by kernel_rfl) (by kernel_rfl) fun x hp => ⟨cx8, mkCx_ok tabs_ok2 ⟨h10, h22, h11, h19, h27, h28, trivial⟩ trivial trivial, by kernel_rfl, by kernel_rfl, by rw [e8]; exact v8 x hp⟩
abbrev iv (n : Int) : Value := .int .i64 n
abbrev nl : Value := .slice none 0 0
theorem lifted (os : Os) (started : os.Started) (H : Type) (enc : TypeId × Value → H) :
    ReturnsInHanded {} Go.Proofs.Try.checked os 8 .any (Rows.hueBestSpec.pre6 enc Go.Proofs.Try.prog Go.Proofs.Try.f8 Rows.hueBestRow.domain false) (Rows.hueBestSpec.post enc Go.Proofs.Try.prog Go.Proofs.Try.f8 false true false false) := by
  refine returnsInHanded_of_change_sized (C := Go.Proofs.Try.checked) own started (by kernel_rfl) (show Go.Proofs.Try.prog.funcs[8]? = some Go.Proofs.Try.f8 from by kernel_rfl)
    (ChangeSpec.witness6 (enc := enc) (C := Go.Proofs.Try.checked) false ⟨#[], #[.agg #[iv 0, iv 0, iv 0, iv 0, iv 0], nl, nl], []⟩ 8 (by kernel_rfl) (by kernel_rfl) (by kernel_rfl) (by kernel_rfl)) ?_
  intro W base args ds gs before hval hW _ hwt _
  exact row_calls (args := k8.args) (pre := law08u_HueBest_p) (val := law08u_HueBest) h8 (fun _ hf => ⟨fun b hb => hf.2.2.2 b hb, hf.2.2.1⟩) (fun _ => rfl) tabs_ok2 heavy laid (by kernel_rfl) (by kernel_rfl) (B := 4) (by kernel_rfl) bool4 (by kernel_rfl)
    (fun ds hd => by
      match ds, hd with
      | [_, _, _], _ => rfl) hval hW hwt
theorem said : Rows.HueBestSaid :=
  OpenClaim.holds_of_wide 8 Go.Proofs.Try.f8 rfl rfl rfl rfl rfl rfl rfl ⟨rfl, rfl, rfl, rfl, rfl⟩ rfl rfl rfl rfl rfl (by kernel_rfl) (show Go.Proofs.Try.prog.funcs[8]? = some Go.Proofs.Try.f8 from by kernel_rfl) (by kernel_rfl)
    (of_decide_eq_true (by kernel_rfl)) (by unfold Func.isWrapper; first | (rw [if_pos (by decide +kernel)]; kernel_rfl) | (rw [if_neg (by decide +kernel)]; exact ⟨rfl, rfl⟩))
    (fun os started H enc _ => lifted os started H enc)
end Go.Hue
namespace Go.Proofs.Ytlkegffejcndbaa
/-- HueBest returns true for every input, and leaves its arguments as they were. -/
theorem hueBest_holds : Rows.HueBestSaid := Go.Hue.said
end Go.Proofs.Ytlkegffejcndbaa
