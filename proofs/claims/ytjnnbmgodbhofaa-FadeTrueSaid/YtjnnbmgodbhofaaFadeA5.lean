/-
  FadeTrue returns true for every input, and leaves its arguments as they were.
-/
import Derived.Test.YtjnnbmgodbhofaaFadeP7
import Derived.Test.YtjnnbmgodbhofaaFadeS4
import Derived.Test.YtjnnbmgodbhofaaSH
import Derived.Test.YtjnnbmgodbhofaaRows
import Derived.ProofKit
set_option linter.all false


set_option maxRecDepth 100000
namespace Go.Fade
open Go Go.Sx Go.Proofs.Ytjnnbmgodbhofaa

theorem own : ownKnob Go.Proofs.Try.prog.godebug = none := by kernel_rfl
theorem laid : laidOutB Go.Proofs.Try.prog = true := by kernel_rfl
theorem heavy : T2.heavy Go.Proofs.Try.prog = true := by kernel_rfl
theorem bool4 : Go.Proofs.Try.prog.underlying 4 = some .bool := by kernel_rfl
theorem h57 : Sx.GoodL Go.Proofs.Try.prog 57 k57 := lcon_of mixed (show Go.Proofs.Try.prog.funcs[57]? = some Go.Proofs.Try.f57 from by kernel_rfl) (by kernel_rfl) fun x hp => ⟨cx57, mkCx_ok tabs_ok2 trivial trivial trivial, by kernel_rfl, by kernel_rfl, by rw [e57]; exact v57 x hp⟩
theorem h58 : Sx.Good Go.Proofs.Try.prog 58 k58 := con_of mixed (show Go.Proofs.Try.prog.funcs[58]? = some Go.Proofs.Try.f58 from by kernel_rfl) (by kernel_rfl) fun x hp => ⟨cx58, mkCx_ok tabs_ok2 trivial trivial trivial, by kernel_rfl, by kernel_rfl, by rw [e58]; exact v58 x hp⟩
theorem h27 : Sx.Good Go.Proofs.Try.prog 27 k27 := con_of mixed (show Go.Proofs.Try.prog.funcs[27]? = some Go.Proofs.Try.f27 from by kernel_rfl) (by kernel_rfl) fun x hp => ⟨cx27, withHld_ok (withNlp_ok (mkCx_ok tabs_ok2 ⟨h58, h25, trivial⟩ ⟨h57, trivial⟩ trivial)), by kernel_rfl, by kernel_rfl, by rw [e27]; exact v27 x hp⟩
theorem h6 : Sx.Good Go.Proofs.Try.prog 6 k6 := con_of mixed (show Go.Proofs.Try.prog.funcs[6]? = some Go.Proofs.Try.f6 from by kernel_rfl) (by kernel_rfl) fun x hp => ⟨cx6, mkCx_ok tabs_ok2 ⟨h26, h13, h27, h14, h16, h22, h18, h20, trivial⟩ trivial trivial, by kernel_rfl, by kernel_rfl, by rw [e6]; exact v6 x hp⟩
abbrev iv (n : Int) : Value := .int .i64 n
abbrev nl : Value := .slice none 0 0
theorem lifted (os : Os) (started : os.Started) (H : Type) (enc : TypeId × Value → H) :
    ReturnsInHanded {} Go.Proofs.Try.checked os 6 .any (Rows.fadeTrueSpec.pre6 enc Go.Proofs.Try.prog Go.Proofs.Try.f6 Rows.fadeTrueRow.domain false) (Rows.fadeTrueSpec.post enc Go.Proofs.Try.prog Go.Proofs.Try.f6 false true false false) := by
  refine returnsInHanded_of_change_sized (C := Go.Proofs.Try.checked) own started (by kernel_rfl) (show Go.Proofs.Try.prog.funcs[6]? = some Go.Proofs.Try.f6 from by kernel_rfl)
    (ChangeSpec.witness6 (enc := enc) (C := Go.Proofs.Try.checked) false ⟨#[], #[nl, .int .u8 0, .int .u8 0, nl, .agg #[iv 0, iv 0]], []⟩ 8 (by kernel_rfl) (by kernel_rfl) (by kernel_rfl) (by kernel_rfl)) ?_
  intro W base args ds gs before hval hW _ hwt _
  exact row_calls (args := k6.args) (pre := law12u_FadeTrue_p) (val := law12u_FadeTrue) h6 (fun _ hf => ⟨⟨hf.2.1, hf.2.2.1⟩, hf.2.2.2.1⟩) (fun _ => rfl) tabs_ok2 heavy laid (by kernel_rfl) (by kernel_rfl) (B := 4) (by kernel_rfl) bool4 (by kernel_rfl)
    (fun ds hd => by
      match ds, hd with
      | [_, _, _, _, _], _ => rfl) hval hW hwt
theorem said : Rows.FadeTrueSaid :=
  OpenClaim.holds_of_wide 6 Go.Proofs.Try.f6 rfl rfl rfl rfl rfl rfl rfl ⟨rfl, rfl, rfl, rfl, rfl⟩ rfl rfl rfl rfl rfl (by kernel_rfl) (show Go.Proofs.Try.prog.funcs[6]? = some Go.Proofs.Try.f6 from by kernel_rfl) (by kernel_rfl)
    (of_decide_eq_true (by kernel_rfl)) (by unfold Func.isWrapper; first | (rw [if_pos (by decide +kernel)]; kernel_rfl) | (rw [if_neg (by decide +kernel)]; exact ⟨rfl, rfl⟩))
    (fun os started H enc _ => lifted os started H enc)
end Go.Fade
namespace Go.Proofs.Ytjnnbmgodbhofaa
/-- FadeTrue returns true for every input, and leaves its arguments as they were. -/
theorem fadeTrue_holds : Rows.FadeTrueSaid := Go.Fade.said
end Go.Proofs.Ytjnnbmgodbhofaa
