/-
  DieEnds returns true for every input, and leaves its arguments as they were.
-/
import Derived.Test.YtihkgphflgojeaaDieR1
import Derived.Test.YtihkgphflgojeaaSH
import Derived.Test.YtihkgphflgojeaaRows
import Derived.ProofKit
set_option linter.all false


set_option maxRecDepth 100000
namespace Go.Die
open Go Go.Sx Go.Proofs.Ytihkgphflgojeaa

theorem own : ownKnob Go.Proofs.Try.prog.godebug = none := by kernel_rfl
theorem laid : laidOutB Go.Proofs.Try.prog = true := by kernel_rfl
theorem heavy : T3.heavy Go.Proofs.Try.prog = true := by kernel_rfl
theorem bool4 : Go.Proofs.Try.prog.underlying 4 = some .bool := by kernel_rfl
theorem h25 : Sx.Good Go.Proofs.Try.prog 25 k25 := con_of mixed (show Go.Proofs.Try.prog.funcs[25]? = some Go.Proofs.Try.f25 from by kernel_rfl) (by kernel_rfl) fun x hp => ⟨cx25, mkCx_ok tabs_ok3 ⟨h26, h27, trivial⟩ trivial trivial, by kernel_rfl, by kernel_rfl, by rw [e25]; exact v25 x hp⟩
theorem h6 : Sx.Good Go.Proofs.Try.prog 6 k6 := con_of mixed (show Go.Proofs.Try.prog.funcs[6]? = some Go.Proofs.Try.f6 from by kernel_rfl) (by kernel_rfl) fun x hp => ⟨cx6, withHld_ok (mkCx_ok tabs_ok3 ⟨h9, h10, h11, h20, h24, h13, h25, trivial⟩ trivial trivial), by kernel_rfl, by kernel_rfl, by rw [e6]; exact v6 x hp⟩
abbrev iv (n : Int) : Value := .int .i64 n
abbrev nl : Value := .slice none 0 0
theorem lifted (os : Os) (started : os.Started) (H : Type) (enc : TypeId × Value → H) :
    ReturnsInHanded {} Go.Proofs.Try.checked os 6 .any (Rows.dieEndsSpec.pre6 enc Go.Proofs.Try.prog Go.Proofs.Try.f6 Rows.dieEndsRow.domain false) (Rows.dieEndsSpec.post enc Go.Proofs.Try.prog Go.Proofs.Try.f6 false true false false) := by
  refine returnsInHanded_of_change_sized (C := Go.Proofs.Try.checked) own started (by kernel_rfl) (show Go.Proofs.Try.prog.funcs[6]? = some Go.Proofs.Try.f6 from by kernel_rfl)
    (ChangeSpec.witness6 (enc := enc) (C := Go.Proofs.Try.checked) false ⟨#[], #[.agg #[nl, iv 0, iv 0, iv 0], iv 0, iv 0, .agg #[iv 0, iv 0], .int .u16 0], []⟩ 8 (by kernel_rfl) (by kernel_rfl) (by kernel_rfl) (by kernel_rfl)) ?_
  intro W base args ds gs before hval hW _ hwt _
  exact row_calls (args := k6.args) (pre := law04u_DieEnds_p) (val := law04u_DieEnds) h6 (fun _ hf => hf.2.2.2.2) (fun _ => rfl) tabs_ok3 heavy laid (by kernel_rfl) (by kernel_rfl) (B := 4) (by kernel_rfl) bool4 (by kernel_rfl)
    (fun ds hd => by
      match ds, hd with
      | [_, _, _, _, _], _ => rfl) hval hW hwt
theorem said : Rows.DieEndsSaid :=
  OpenClaim.holds_of_wide 6 Go.Proofs.Try.f6 rfl rfl rfl rfl rfl rfl rfl ⟨rfl, rfl, rfl, rfl, rfl⟩ rfl rfl rfl rfl rfl (by kernel_rfl) (show Go.Proofs.Try.prog.funcs[6]? = some Go.Proofs.Try.f6 from by kernel_rfl) (by kernel_rfl)
    (of_decide_eq_true (by kernel_rfl)) (by unfold Func.isWrapper; first | (rw [if_pos (by decide +kernel)]; kernel_rfl) | (rw [if_neg (by decide +kernel)]; exact ⟨rfl, rfl⟩))
    (fun os started H enc _ => lifted os started H enc)
end Go.Die
namespace Go.Proofs.Ytihkgphflgojeaa
/-- DieEnds returns true for every input, and leaves its arguments as they were. -/
theorem dieEnds_holds : Rows.DieEndsSaid := Go.Die.said
end Go.Proofs.Ytihkgphflgojeaa
