/-
  DustMore returns true for every input, and leaves its arguments as they were.
-/
import Derived.Test.YtmbaggjpbjpljaaDustM1
import Derived.Test.YtmbaggjpbjpljaaSH
import Derived.Test.YtmbaggjpbjpljaaRows
import Derived.ProofKit
set_option linter.all false


set_option maxRecDepth 100000
namespace Go.Dust
open Go Go.Sx Go.Proofs.Ytmbaggjpbjpljaa

theorem own : ownKnob Go.Proofs.Try.prog.godebug = none := by kernel_rfl
theorem laid : laidOutB Go.Proofs.Try.prog = true := by kernel_rfl
theorem heavy : T2.heavy Go.Proofs.Try.prog = true := by kernel_rfl
theorem bool4 : Go.Proofs.Try.prog.underlying 4 = some .bool := by kernel_rfl
theorem h8 : Sx.Good Go.Proofs.Try.prog 8 k8 := con_of mixed (show Go.Proofs.Try.prog.funcs[8]? = some Go.Proofs.Try.f8 from by kernel_rfl) (by kernel_rfl) fun x hp => ⟨cx8, mkCx_ok tabs_ok2 ⟨h20, h21, h9, h17, h25, h14, trivial⟩ trivial trivial, by kernel_rfl, by kernel_rfl, by rw [e8]; exact v8 x hp⟩
abbrev iv (n : Int) : Value := .int .i64 n
abbrev nl : Value := .slice none 0 0
theorem lifted (os : Os) (started : os.Started) (H : Type) (enc : TypeId × Value → H) :
    ReturnsInHanded {} Go.Proofs.Try.checked os 8 .any (Rows.dustMoreSpec.pre6 enc Go.Proofs.Try.prog Go.Proofs.Try.f8 Rows.dustMoreRow.domain false) (Rows.dustMoreSpec.post enc Go.Proofs.Try.prog Go.Proofs.Try.f8 false true false false) := by
  refine returnsInHanded_of_change_sized (C := Go.Proofs.Try.checked) own started (by kernel_rfl) (show Go.Proofs.Try.prog.funcs[8]? = some Go.Proofs.Try.f8 from by kernel_rfl)
    (ChangeSpec.witness6 (enc := enc) (C := Go.Proofs.Try.checked) false ⟨#[], #[.agg #[iv 0, iv 0, iv 0, iv 0, iv 0, iv 0, iv 0], nl, .int .u8 0], []⟩ 8 (by kernel_rfl) (by kernel_rfl) (by kernel_rfl) (by kernel_rfl)) ?_
  intro W base args ds gs before hval hW _ hwt _
  exact row_calls (args := k8.args) (pre := law13u_DustMore_p) (val := law13u_DustMore) h8 (fun _ hf => ⟨hf.2.2.1, hf.2.2.2⟩) (fun _ => rfl) tabs_ok2 heavy laid (by kernel_rfl) (by kernel_rfl) (B := 4) (by kernel_rfl) bool4 (by kernel_rfl)
    (fun ds hd => by
      match ds, hd with
      | [_, _, _], _ => rfl) hval hW hwt
theorem said : Rows.DustMoreSaid :=
  OpenClaim.holds_of_wide 8 Go.Proofs.Try.f8 rfl rfl rfl rfl rfl rfl rfl ⟨rfl, rfl, rfl, rfl, rfl⟩ rfl rfl rfl rfl rfl (by kernel_rfl) (show Go.Proofs.Try.prog.funcs[8]? = some Go.Proofs.Try.f8 from by kernel_rfl) (by kernel_rfl)
    (of_decide_eq_true (by kernel_rfl)) (by unfold Func.isWrapper; first | (rw [if_pos (by decide +kernel)]; kernel_rfl) | (rw [if_neg (by decide +kernel)]; exact ⟨rfl, rfl⟩))
    (fun os started H enc _ => lifted os started H enc)
end Go.Dust
namespace Go.Proofs.Ytmbaggjpbjpljaa
/-- DustMore returns true for every input, and leaves its arguments as they were. -/
theorem dustMore_holds : Rows.DustMoreSaid := Go.Dust.said
end Go.Proofs.Ytmbaggjpbjpljaa
