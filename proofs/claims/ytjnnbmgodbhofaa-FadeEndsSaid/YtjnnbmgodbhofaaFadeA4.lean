/-
  FadeEnds returns true for every input, and leaves its arguments as they were.
-/
import Derived.Test.YtjnnbmgodbhofaaFadeP7
import Derived.Test.YtjnnbmgodbhofaaFadeQ2
import Derived.Test.YtjnnbmgodbhofaaSH
import Derived.Test.YtjnnbmgodbhofaaRows
import Derived.ProofKit
set_option linter.all false


set_option maxRecDepth 100000
namespace Go.Fade
open Go Go.Sx Go.Proofs.Ytjnnbmgodbhofaa

theorem own : ownKnob Go.Proofs.Try.prog.godebug = none := by kernel_rfl
theorem laid : laidOutB Go.Proofs.Try.prog = true := by kernel_rfl
theorem heavy : T.heavy Go.Proofs.Try.prog = true := by kernel_rfl
theorem bool4 : Go.Proofs.Try.prog.underlying 4 = some .bool := by kernel_rfl
theorem h28 : Sx.Good Go.Proofs.Try.prog 28 k28 := con_of mixed (show Go.Proofs.Try.prog.funcs[28]? = some Go.Proofs.Try.f28 from by kernel_rfl) (by kernel_rfl) fun x hp => ⟨cx28, mkCx_ok tabs_ok ⟨h20, trivial⟩ trivial trivial, by kernel_rfl, by kernel_rfl, by rw [e28]; exact v28 x hp⟩
theorem h29 : Sx.Good Go.Proofs.Try.prog 29 k29 := con_of mixed (show Go.Proofs.Try.prog.funcs[29]? = some Go.Proofs.Try.f29 from by kernel_rfl) (by kernel_rfl) fun x hp => ⟨cx29, withHld_ok (mkCx_ok tabs_ok ⟨h25, trivial⟩ trivial trivial), by kernel_rfl, by kernel_rfl, by rw [e29]; exact v29 x hp⟩
theorem h30 : Sx.Good Go.Proofs.Try.prog 30 k30 := con_of mixed (show Go.Proofs.Try.prog.funcs[30]? = some Go.Proofs.Try.f30 from by kernel_rfl) (by kernel_rfl) fun x hp => ⟨cx30, withHld_ok (mkCx_ok tabs_ok ⟨h25, trivial⟩ trivial trivial), by kernel_rfl, by kernel_rfl, by rw [e30]; exact v30 x hp⟩
theorem h7 : Sx.Good Go.Proofs.Try.prog 7 k7 := con_of mixed (show Go.Proofs.Try.prog.funcs[7]? = some Go.Proofs.Try.f7 from by kernel_rfl) (by kernel_rfl) fun x hp => ⟨cx7, mkCx_ok tabs_ok ⟨h12, h13, h14, h16, h26, h28, h29, h30, trivial⟩ trivial trivial, by kernel_rfl, by kernel_rfl, by rw [e7]; exact v7 x hp⟩
abbrev iv (n : Int) : Value := .int .i64 n
abbrev nl : Value := .slice none 0 0
theorem lifted (os : Os) (started : os.Started) (H : Type) (enc : TypeId × Value → H) :
    ReturnsInHanded {} Go.Proofs.Try.checked os 7 .any (Rows.fadeEndsSpec.pre6 enc Go.Proofs.Try.prog Go.Proofs.Try.f7 Rows.fadeEndsRow.domain false) (Rows.fadeEndsSpec.post enc Go.Proofs.Try.prog Go.Proofs.Try.f7 false true false false) := by
  refine returnsInHanded_of_change_sized (C := Go.Proofs.Try.checked) own started (by kernel_rfl) (show Go.Proofs.Try.prog.funcs[7]? = some Go.Proofs.Try.f7 from by kernel_rfl)
    (ChangeSpec.witness6 (enc := enc) (C := Go.Proofs.Try.checked) false ⟨#[], #[.agg #[nl, nl, iv 0, nl], iv 0, iv 0, iv 0], []⟩ 8 (by kernel_rfl) (by kernel_rfl) (by kernel_rfl) (by kernel_rfl)) ?_
  intro W base args ds gs before hval hW _ hwt _
  exact row_calls (args := k7.args) (pre := law12u_FadeEnds_p) (val := law12u_FadeEnds) h7 (fun _ hf => trivial) (fun _ => rfl) tabs_ok heavy laid (by kernel_rfl) (by kernel_rfl) (B := 4) (by kernel_rfl) bool4 (by kernel_rfl)
    (fun ds hd => by
      match ds, hd with
      | [_, _, _, _], _ => rfl) hval hW hwt
theorem said : Rows.FadeEndsSaid :=
  OpenClaim.holds_of_wide 7 Go.Proofs.Try.f7 rfl rfl rfl rfl rfl rfl rfl ⟨rfl, rfl, rfl, rfl, rfl⟩ rfl rfl rfl rfl rfl (by kernel_rfl) (show Go.Proofs.Try.prog.funcs[7]? = some Go.Proofs.Try.f7 from by kernel_rfl) (by kernel_rfl)
    (of_decide_eq_true (by kernel_rfl)) (by unfold Func.isWrapper; first | (rw [if_pos (by decide +kernel)]; kernel_rfl) | (rw [if_neg (by decide +kernel)]; exact ⟨rfl, rfl⟩))
    (fun os started H enc _ => lifted os started H enc)
end Go.Fade
namespace Go.Proofs.Ytjnnbmgodbhofaa
/-- FadeEnds returns true for every input, and leaves its arguments as they were. -/
theorem fadeEnds_holds : Rows.FadeEndsSaid := Go.Fade.said
end Go.Proofs.Ytjnnbmgodbhofaa
