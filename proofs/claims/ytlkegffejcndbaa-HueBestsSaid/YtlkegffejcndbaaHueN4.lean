/-
  HueBests returns true for every input, and leaves its arguments as they were.
-/
import Derived.Test.YtlkegffejcndbaaHueN3
import Derived.Test.YtlkegffejcndbaaSH
import Derived.Test.YtlkegffejcndbaaRows
import Derived.ProofKit
set_option linter.all false


set_option maxRecDepth 100000
namespace Go.Hue
open Go Go.Sx Go.Proofs.Ytlkegffejcndbaa

theorem own : ownKnob Go.Proofs.Try.prog.godebug = none := by kernel_rfl
theorem laid : laidOutB Go.Proofs.Try.prog = true := by kernel_rfl
theorem heavy : T3.heavy Go.Proofs.Try.prog = true := by kernel_rfl
theorem bool4 : Go.Proofs.Try.prog.underlying 4 = some .bool := by kernel_rfl
theorem h60 : Sx.Good Go.Proofs.Try.prog 60 k60 := con_of mixed (show Go.Proofs.Try.prog.funcs[60]? = some Go.Proofs.Try.f60 from by kernel_rfl) (by kernel_rfl) fun x hp => ⟨cx60, mkCx_ok tabs_ok3 trivial trivial trivial, by kernel_rfl, by kernel_rfl, by rw [e60]; exact v60 x hp⟩
theorem h45 : Sx.GoodL Go.Proofs.Try.prog 45 k45 := lcon_rec m45 mixed (show Go.Proofs.Try.prog.funcs[45]? = some Go.Proofs.Try.f45 from by kernel_rfl) (by kernel_rfl) fun x hp own => ⟨(cx45 x), mkCx_ok tabs_ok3 ⟨h60, trivial⟩ ⟨own, trivial⟩ trivial, by kernel_rfl, by kernel_rfl, by rw [e45]; exact v45 x hp⟩
theorem h46 : Sx.Good Go.Proofs.Try.prog 46 k46 := con_of mixed (show Go.Proofs.Try.prog.funcs[46]? = some Go.Proofs.Try.f46 from by kernel_rfl) (by kernel_rfl) fun x hp => ⟨cx46, mkCx_ok tabs_ok3 ⟨h35, trivial⟩ trivial trivial, by kernel_rfl, by kernel_rfl, by rw [e46]; exact v46 x hp⟩
theorem h20 : Sx.Good Go.Proofs.Try.prog 20 k20 := con_of mixed (show Go.Proofs.Try.prog.funcs[20]? = some Go.Proofs.Try.f20 from by kernel_rfl) (by kernel_rfl) fun x hp => ⟨cx20, mkCx_ok tabs_ok3 ⟨h22, h15, h46, trivial⟩ ⟨h45, trivial⟩ trivial, by kernel_rfl, by kernel_rfl, by rw [e20]; exact v20 x hp⟩
theorem h4 : Sx.Good Go.Proofs.Try.prog 4 k4 := con_of mixed (show Go.Proofs.Try.prog.funcs[4]? = some Go.Proofs.Try.f4 from by kernel_rfl) (by kernel_rfl) fun x hp => ⟨cx4, mkCx_ok tabs_ok3 ⟨h10, h11, h19, h20, h21, trivial⟩ trivial trivial, by kernel_rfl, by kernel_rfl, by rw [e4]; exact v4 x hp⟩
abbrev iv (n : Int) : Value := .int .i64 n
abbrev nl : Value := .slice none 0 0
theorem lifted (os : Os) (started : os.Started) (H : Type) (enc : TypeId × Value → H) :
    ReturnsInHanded {} Go.Proofs.Try.checked os 4 .any (Rows.hueBestsSpec.pre6 enc Go.Proofs.Try.prog Go.Proofs.Try.f4 Rows.hueBestsRow.domain false) (Rows.hueBestsSpec.post enc Go.Proofs.Try.prog Go.Proofs.Try.f4 false true false false) := by
  refine returnsInHanded_of_change_sized (C := Go.Proofs.Try.checked) own started (by kernel_rfl) (show Go.Proofs.Try.prog.funcs[4]? = some Go.Proofs.Try.f4 from by kernel_rfl)
    (ChangeSpec.witness6 (enc := enc) (C := Go.Proofs.Try.checked) false ⟨#[], #[.agg #[iv 0, iv 0, iv 0, iv 0, iv 0], nl], []⟩ 8 (by kernel_rfl) (by kernel_rfl) (by kernel_rfl) (by kernel_rfl)) ?_
  intro W base args ds gs before hval hW _ hwt _
  exact row_calls (args := k4.args) (pre := law08u_HueBests_p) (val := law08u_HueBests) h4 (fun _ hf => trivial) (fun _ => rfl) tabs_ok3 heavy laid (by kernel_rfl) (by kernel_rfl) (B := 4) (by kernel_rfl) bool4 (by kernel_rfl)
    (fun ds hd => by
      match ds, hd with
      | [_, _], _ => rfl) hval hW hwt
theorem said : Rows.HueBestsSaid :=
  OpenClaim.holds_of_wide 4 Go.Proofs.Try.f4 rfl rfl rfl rfl rfl rfl rfl ⟨rfl, rfl, rfl, rfl, rfl⟩ rfl rfl rfl rfl rfl (by kernel_rfl) (show Go.Proofs.Try.prog.funcs[4]? = some Go.Proofs.Try.f4 from by kernel_rfl) (by kernel_rfl)
    (of_decide_eq_true (by kernel_rfl)) (by unfold Func.isWrapper; first | (rw [if_pos (by decide +kernel)]; kernel_rfl) | (rw [if_neg (by decide +kernel)]; exact ⟨rfl, rfl⟩))
    (fun os started H enc _ => lifted os started H enc)
end Go.Hue
namespace Go.Proofs.Ytlkegffejcndbaa
/-- HueBests returns true for every input, and leaves its arguments as they were. -/
theorem hueBests_holds : Rows.HueBestsSaid := Go.Hue.said
end Go.Proofs.Ytlkegffejcndbaa
