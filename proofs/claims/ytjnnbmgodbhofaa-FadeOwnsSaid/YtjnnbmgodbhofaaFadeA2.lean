/-
  FadeOwns returns true for every input, and leaves its arguments as they were.
-/
import Derived.Test.YtjnnbmgodbhofaaFadeP7
import Derived.Test.YtjnnbmgodbhofaaSH
import Derived.Test.YtjnnbmgodbhofaaRows
import Derived.ProofKit
set_option linter.all false


set_option maxRecDepth 100000
namespace Go.Fade
open Go Go.Sx Go.Proofs.Ytjnnbmgodbhofaa

theorem own : ownKnob Go.Proofs.Try.prog.godebug = none := by kernel_rfl
theorem laid : laidOutB Go.Proofs.Try.prog = true := by kernel_rfl
theorem heavy : T.heavy Go.Proofs.Try.prog = true := by kernel_rfl
theorem bool4 : Go.Proofs.Try.prog.underlying 4 = some .bool := by kernel_rfl
theorem h11 : Sx.Good Go.Proofs.Try.prog 11 k11 := con_of mixed (show Go.Proofs.Try.prog.funcs[11]? = some Go.Proofs.Try.f11 from by kernel_rfl) (by kernel_rfl) fun x hp => ⟨cx11, mkCx_ok tabs_ok ⟨h12, h13, h14, h16, h18, h20, h25, h22, trivial⟩ trivial trivial, by kernel_rfl, by kernel_rfl, by rw [e11]; exact v11 x hp⟩
abbrev iv (n : Int) : Value := .int .i64 n
abbrev nl : Value := .slice none 0 0
theorem lifted (os : Os) (started : os.Started) (H : Type) (enc : TypeId × Value → H) :
    ReturnsInHanded {} Go.Proofs.Try.checked os 11 .any (Rows.fadeOwnsSpec.pre6 enc Go.Proofs.Try.prog Go.Proofs.Try.f11 Rows.fadeOwnsRow.domain false) (Rows.fadeOwnsSpec.post enc Go.Proofs.Try.prog Go.Proofs.Try.f11 false true false false) := by
  refine returnsInHanded_of_change_sized (C := Go.Proofs.Try.checked) own started (by kernel_rfl) (show Go.Proofs.Try.prog.funcs[11]? = some Go.Proofs.Try.f11 from by kernel_rfl)
    (ChangeSpec.witness6 (enc := enc) (C := Go.Proofs.Try.checked) false ⟨#[], #[.agg #[nl, nl, iv 0, nl], iv 0], []⟩ 8 (by kernel_rfl) (by kernel_rfl) (by kernel_rfl) (by kernel_rfl)) ?_
  intro W base args ds gs before hval hW _ hwt _
  exact row_calls (args := k11.args) (pre := law12u_FadeOwns_p) (val := law12u_FadeOwns) h11 (fun _ hf => trivial) (fun _ => rfl) tabs_ok heavy laid (by kernel_rfl) (by kernel_rfl) (B := 4) (by kernel_rfl) bool4 (by kernel_rfl)
    (fun ds hd => by
      match ds, hd with
      | [_, _], _ => rfl) hval hW hwt
theorem said : Rows.FadeOwnsSaid :=
  OpenClaim.holds_of_wide 11 Go.Proofs.Try.f11 rfl rfl rfl rfl rfl rfl rfl ⟨rfl, rfl, rfl, rfl, rfl⟩ rfl rfl rfl rfl rfl (by kernel_rfl) (show Go.Proofs.Try.prog.funcs[11]? = some Go.Proofs.Try.f11 from by kernel_rfl) (by kernel_rfl)
    (of_decide_eq_true (by kernel_rfl)) (by unfold Func.isWrapper; first | (rw [if_pos (by decide +kernel)]; kernel_rfl) | (rw [if_neg (by decide +kernel)]; exact ⟨rfl, rfl⟩))
    (fun os started H enc _ => lifted os started H enc)
end Go.Fade
namespace Go.Proofs.Ytjnnbmgodbhofaa
/-- FadeOwns returns true for every input, and leaves its arguments as they were. -/
theorem fadeOwns_holds : Rows.FadeOwnsSaid := Go.Fade.said
end Go.Proofs.Ytjnnbmgodbhofaa
