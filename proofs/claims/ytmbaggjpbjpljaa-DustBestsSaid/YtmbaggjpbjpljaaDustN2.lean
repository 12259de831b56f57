/-
  DustBests returns true for every input, and leaves its arguments as they were.
-/
import Derived.Test.YtmbaggjpbjpljaaDustN1
import Derived.Test.YtmbaggjpbjpljaaSH
import Derived.Test.YtmbaggjpbjpljaaRows
import Derived.ProofKit
set_option linter.all false


set_option maxRecDepth 100000
namespace Go.Dust
open Go Go.Sx Go.Proofs.Ytmbaggjpbjpljaa

theorem own : ownKnob Go.Proofs.Try.prog.godebug = none := by kernel_rfl
theorem laid : laidOutB Go.Proofs.Try.prog = true := by kernel_rfl
theorem heavy : T2.heavy Go.Proofs.Try.prog = true := by kernel_rfl
theorem bool4 : Go.Proofs.Try.prog.underlying 4 = some .bool := by kernel_rfl
theorem h43 : Sx.Good Go.Proofs.Try.prog 43 k43 := con_of mixed (show Go.Proofs.Try.prog.funcs[43]? = some Go.Proofs.Try.f43 from by kernel_rfl) (by kernel_rfl) fun x hp => ⟨cx43, mkCx_ok tabs_ok2 ⟨h13, trivial⟩ trivial trivial, by kernel_rfl, by kernel_rfl, by rw [e43]; exact v43 x hp⟩
theorem h18 : Sx.Good Go.Proofs.Try.prog 18 k18 := con_of mixed (show Go.Proofs.Try.prog.funcs[18]? = some Go.Proofs.Try.f18 from by kernel_rfl) (by kernel_rfl) fun x hp => ⟨cx18, mkCx_ok tabs_ok2 ⟨h20, h21, h43, h13, trivial⟩ trivial trivial, by kernel_rfl, by kernel_rfl, by rw [e18]; exact v18 x hp⟩
theorem h4 : Sx.Good Go.Proofs.Try.prog 4 k4 := con_of mixed (show Go.Proofs.Try.prog.funcs[4]? = some Go.Proofs.Try.f4 from by kernel_rfl) (by kernel_rfl) fun x hp => ⟨cx4, mkCx_ok tabs_ok2 ⟨h9, h17, h18, h19, trivial⟩ trivial trivial, by kernel_rfl, by kernel_rfl, by rw [e4]; exact v4 x hp⟩
abbrev iv (n : Int) : Value := .int .i64 n
abbrev nl : Value := .slice none 0 0
theorem lifted (os : Os) (started : os.Started) (H : Type) (enc : TypeId × Value → H) :
    ReturnsInHanded {} Go.Proofs.Try.checked os 4 .any (Rows.dustBestsSpec.pre6 enc Go.Proofs.Try.prog Go.Proofs.Try.f4 Rows.dustBestsRow.domain false) (Rows.dustBestsSpec.post enc Go.Proofs.Try.prog Go.Proofs.Try.f4 false true false false) := by
  refine returnsInHanded_of_change_sized (C := Go.Proofs.Try.checked) own started (by kernel_rfl) (show Go.Proofs.Try.prog.funcs[4]? = some Go.Proofs.Try.f4 from by kernel_rfl)
    (ChangeSpec.witness6 (enc := enc) (C := Go.Proofs.Try.checked) false ⟨#[], #[.agg #[iv 0, iv 0, iv 0, iv 0, iv 0, iv 0, iv 0], nl], []⟩ 8 (by kernel_rfl) (by kernel_rfl) (by kernel_rfl) (by kernel_rfl)) ?_
  intro W base args ds gs before hval hW _ hwt _
  exact row_calls (args := k4.args) (pre := law13u_DustBests_p) (val := law13u_DustBests) h4 (fun _ hf => trivial) (fun _ => rfl) tabs_ok2 heavy laid (by kernel_rfl) (by kernel_rfl) (B := 4) (by kernel_rfl) bool4 (by kernel_rfl)
    (fun ds hd => by
      match ds, hd with
      | [_, _], _ => rfl) hval hW hwt
theorem said : Rows.DustBestsSaid :=
  OpenClaim.holds_of_wide 4 Go.Proofs.Try.f4 rfl rfl rfl rfl rfl rfl rfl ⟨rfl, rfl, rfl, rfl, rfl⟩ rfl rfl rfl rfl rfl (by kernel_rfl) (show Go.Proofs.Try.prog.funcs[4]? = some Go.Proofs.Try.f4 from by kernel_rfl) (by kernel_rfl)
    (of_decide_eq_true (by kernel_rfl)) (by unfold Func.isWrapper; first | (rw [if_pos (by decide +kernel)]; kernel_rfl) | (rw [if_neg (by decide +kernel)]; exact ⟨rfl, rfl⟩))
    (fun os started H enc _ => lifted os started H enc)
end Go.Dust
namespace Go.Proofs.Ytmbaggjpbjpljaa
/-- DustBests returns true for every input, and leaves its arguments as they were. -/
theorem dustBests_holds : Rows.DustBestsSaid := Go.Dust.said
end Go.Proofs.Ytmbaggjpbjpljaa
