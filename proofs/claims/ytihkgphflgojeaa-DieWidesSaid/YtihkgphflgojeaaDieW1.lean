/-
  DieWides returns true for every input, and leaves its arguments as they were.
-/
import Derived.Test.YtihkgphflgojeaaDieP7
import Derived.Test.YtihkgphflgojeaaSH
import Derived.Test.YtihkgphflgojeaaRows
import Derived.ProofKit
set_option linter.all false


set_option maxRecDepth 100000
namespace Go.Die
open Go Go.Sx Go.Proofs.Ytihkgphflgojeaa

theorem own : ownKnob Go.Proofs.Try.prog.godebug = none := by kernel_rfl
theorem laid : laidOutB Go.Proofs.Try.prog = true := by kernel_rfl
theorem heavy : T.heavy Go.Proofs.Try.prog = true := by kernel_rfl
theorem bool4 : Go.Proofs.Try.prog.underlying 4 = some .bool := by kernel_rfl
theorem h3 : Sx.Good Go.Proofs.Try.prog 3 k3 := con_of mixed (show Go.Proofs.Try.prog.funcs[3]? = some Go.Proofs.Try.f3 from by kernel_rfl) (by kernel_rfl) fun x hp => ⟨cx3, mkCxN_ok tabs_ok ⟨h9, h10, h11, h12, h13, h14, h16, h17, trivial⟩ trivial trivial ⟨h15, trivial⟩, by kernel_rfl, by kernel_rfl, by rw [e3]; exact v3 x hp⟩
abbrev iv (n : Int) : Value := .int .i64 n
abbrev nl : Value := .slice none 0 0
theorem lifted (os : Os) (started : os.Started) (H : Type) (enc : TypeId × Value → H) :
    ReturnsInHanded {} Go.Proofs.Try.checked os 3 .any (Rows.dieWidesSpec.pre6 enc Go.Proofs.Try.prog Go.Proofs.Try.f3 Rows.dieWidesRow.domain false) (Rows.dieWidesSpec.post enc Go.Proofs.Try.prog Go.Proofs.Try.f3 false true false false) := by
  refine returnsInHanded_of_change_sized (C := Go.Proofs.Try.checked) own started (by kernel_rfl) (show Go.Proofs.Try.prog.funcs[3]? = some Go.Proofs.Try.f3 from by kernel_rfl)
    (ChangeSpec.witness6 (enc := enc) (C := Go.Proofs.Try.checked) false ⟨#[], #[.agg #[nl, iv 0, iv 0, iv 0], nl, nl, iv 0, iv 0, .agg #[iv 0, iv 0]], []⟩ 8 (by kernel_rfl) (by kernel_rfl) (by kernel_rfl) (by kernel_rfl)) ?_
  intro W base args ds gs before hval hW _ hwt _
  exact row_calls (args := k3.args) (pre := law04u_DieWides_p) (val := law04u_DieWides) h3 (fun _ hf => trivial) (fun _ => rfl) tabs_ok heavy laid (by kernel_rfl) (by kernel_rfl) (B := 4) (by kernel_rfl) bool4 (by kernel_rfl)
    (fun ds hd => by
      match ds, hd with
      | [_, _, _, _, _, _], _ => rfl) hval hW hwt
theorem said : Rows.DieWidesSaid :=
  OpenClaim.holds_of_wide 3 Go.Proofs.Try.f3 rfl rfl rfl rfl rfl rfl rfl ⟨rfl, rfl, rfl, rfl, rfl⟩ rfl rfl rfl rfl rfl (by kernel_rfl) (show Go.Proofs.Try.prog.funcs[3]? = some Go.Proofs.Try.f3 from by kernel_rfl) (by kernel_rfl)
    (of_decide_eq_true (by kernel_rfl)) (by unfold Func.isWrapper; first | (rw [if_pos (by decide +kernel)]; kernel_rfl) | (rw [if_neg (by decide +kernel)]; exact ⟨rfl, rfl⟩))
    (fun os started H enc _ => lifted os started H enc)
end Go.Die
namespace Go.Proofs.Ytihkgphflgojeaa
/-- DieWides returns true for every input, and leaves its arguments as they were. -/
theorem dieWides_holds : Rows.DieWidesSaid := Go.Die.said
end Go.Proofs.Ytihkgphflgojeaa
