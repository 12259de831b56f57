/-
  FireStands returns true for every input, and leaves its arguments as they were.
-/
import Derived.Test.YtfjkenhmaebpmaaFireP12
import Derived.Test.YtfjkenhmaebpmaaFireH2
import Derived.Test.YtfjkenhmaebpmaaSH
import Derived.Test.YtfjkenhmaebpmaaRows
import Derived.ProofKit
set_option linter.all false


set_option maxRecDepth 100000
namespace Go.Fire
open Go Go.Sx Go.Proofs.Ytfjkenhmaebpmaa

theorem own : ownKnob Go.Proofs.Try.prog.godebug = none := by kernel_rfl
theorem laid : laidOutB Go.Proofs.Try.prog = true := by kernel_rfl
theorem heavy : T3.heavy Go.Proofs.Try.prog = true := by kernel_rfl
theorem bool4 : Go.Proofs.Try.prog.underlying 4 = some .bool := by kernel_rfl
theorem h65 : Sx.Good Go.Proofs.Try.prog 65 k65 := con_of mixed (show Go.Proofs.Try.prog.funcs[65]? = some Go.Proofs.Try.f65 from by kernel_rfl) (by kernel_rfl) fun x hp => ⟨cx65, mkCx_ok tabs_ok3 ⟨h51, trivial⟩ trivial trivial, by kernel_rfl, by kernel_rfl, by rw [e65]; exact v65 x hp⟩
theorem h64 : Sx.Good Go.Proofs.Try.prog 64 k64 := con_rec m64 mixed (show Go.Proofs.Try.prog.funcs[64]? = some Go.Proofs.Try.f64 from by kernel_rfl) (by kernel_rfl) fun x hp own => ⟨(cx64 x), mkCx_ok tabs_ok3 ⟨own, h65, trivial⟩ trivial trivial, by kernel_rfl, by kernel_rfl, by rw [e64]; exact v64 x hp⟩
theorem h24 : Sx.Good Go.Proofs.Try.prog 24 k24 := con_of mixed (show Go.Proofs.Try.prog.funcs[24]? = some Go.Proofs.Try.f24 from by kernel_rfl) (by kernel_rfl) fun x hp => ⟨cx24, mkCx_ok tabs_ok3 ⟨h50, h64, h65, trivial⟩ trivial trivial, by kernel_rfl, by kernel_rfl, by rw [e24]; exact v24 x hp⟩
theorem h5 : Sx.Good Go.Proofs.Try.prog 5 k5 := con_of mixed (show Go.Proofs.Try.prog.funcs[5]? = some Go.Proofs.Try.f5 from by kernel_rfl) (by kernel_rfl) fun x hp => ⟨cx5, mkCx_ok tabs_ok3 ⟨h13, h23, h24, h20, trivial⟩ trivial trivial, by kernel_rfl, by kernel_rfl, by rw [e5]; exact v5 x hp⟩
abbrev iv (n : Int) : Value := .int .i64 n
abbrev nl : Value := .slice none 0 0
theorem lifted (os : Os) (started : os.Started) (H : Type) (enc : TypeId × Value → H) :
    ReturnsInHanded {} Go.Proofs.Try.checked os 5 .any (Rows.fireStandsSpec.pre6 enc Go.Proofs.Try.prog Go.Proofs.Try.f5 Rows.fireStandsRow.domain false) (Rows.fireStandsSpec.post enc Go.Proofs.Try.prog Go.Proofs.Try.f5 false true false false) := by
  refine returnsInHanded_of_change_sized (C := Go.Proofs.Try.checked) own started (by kernel_rfl) (show Go.Proofs.Try.prog.funcs[5]? = some Go.Proofs.Try.f5 from by kernel_rfl)
    (ChangeSpec.witness6 (enc := enc) (C := Go.Proofs.Try.checked) false ⟨#[], #[.agg #[nl, iv 0, iv 0, iv 0], nl, nl], []⟩ 8 (by kernel_rfl) (by kernel_rfl) (by kernel_rfl) (by kernel_rfl)) ?_
  intro W base args ds gs before hval hW _ hwt _
  exact row_calls (args := k5.args) (pre := law03u_FireStands_p) (val := law03u_FireStands) h5 (fun _ hf => trivial) (fun _ => rfl) tabs_ok3 heavy laid (by kernel_rfl) (by kernel_rfl) (B := 4) (by kernel_rfl) bool4 (by kernel_rfl)
    (fun ds hd => by
      match ds, hd with
      | [_, _, _], _ => rfl) hval hW hwt
theorem said : Rows.FireStandsSaid :=
  OpenClaim.holds_of_wide 5 Go.Proofs.Try.f5 rfl rfl rfl rfl rfl rfl rfl ⟨rfl, rfl, rfl, rfl, rfl⟩ rfl rfl rfl rfl rfl (by kernel_rfl) (show Go.Proofs.Try.prog.funcs[5]? = some Go.Proofs.Try.f5 from by kernel_rfl) (by kernel_rfl)
    (of_decide_eq_true (by kernel_rfl)) (by unfold Func.isWrapper; first | (rw [if_pos (by decide +kernel)]; kernel_rfl) | (rw [if_neg (by decide +kernel)]; exact ⟨rfl, rfl⟩))
    (fun os started H enc _ => lifted os started H enc)
end Go.Fire
namespace Go.Proofs.Ytfjkenhmaebpmaa
/-- FireStands returns true for every input, and leaves its arguments as they were. -/
theorem fireStands_holds : Rows.FireStandsSaid := Go.Fire.said
end Go.Proofs.Ytfjkenhmaebpmaa
