/-
  FireStand returns true for every input, and leaves its arguments as they were.
-/
import Derived.Test.YtfjkenhmaebpmaaFireP21
import Derived.Test.YtfjkenhmaebpmaaSH
import Derived.Test.YtfjkenhmaebpmaaRows
import Derived.ProofKit
set_option linter.all false
set_option maxRecDepth 100000
namespace Go.Fire
open Go Go.Sx Go.Proofs.Ytfjkenhmaebpmaa
theorem own : ownKnob Go.Proofs.Try.prog.godebug = none := by kernel_rfl
theorem laid : laidOutB Go.Proofs.Try.prog = true := by kernel_rfl
theorem heavy : T6.heavy Go.Proofs.Try.prog = true := by kernel_rfl
theorem bool4 : Go.Proofs.Try.prog.underlying 4 = some .bool := by kernel_rfl
theorem h38 : Sx.Good Go.Proofs.Try.prog 38 k38 := con_of mixed (show Go.Proofs.Try.prog.funcs[38]? = some Go.Proofs.Try.f38 from by kernel_rfl) (by kernel_rfl) fun x hp => ⟨cx38, mkCx_ok tabs_ok6 ⟨h18, trivial⟩ trivial trivial, by kernel_rfl, by kernel_rfl, by rw [e38]; exact v38 x hp⟩
theorem h39 : Sx.Good Go.Proofs.Try.prog 39 k39 := con_of mixed (show Go.Proofs.Try.prog.funcs[39]? = some Go.Proofs.Try.f39 from by kernel_rfl) (by kernel_rfl) fun x hp => ⟨cx39, mkCx_ok tabs_ok6 trivial trivial trivial, by kernel_rfl, by kernel_rfl, by rw [e39]; exact v39 x hp⟩
theorem h11 : Sx.Good Go.Proofs.Try.prog 11 k11 := con_of mixed (show Go.Proofs.Try.prog.funcs[11]? = some Go.Proofs.Try.f11 from by kernel_rfl) (by kernel_rfl) fun x hp => ⟨cx11, withFrc_ok (mkCx_ok tabs_ok6 ⟨h13, h23, h29, h38, h39, trivial⟩ trivial trivial), by kernel_rfl, by kernel_rfl, by rw [e11]; exact v11 x hp⟩
abbrev iv (n : Int) : Value := .int .i64 n
abbrev nl : Value := .slice none 0 0
theorem lifted (os : Os) (started : os.Started) (H : Type) (enc : TypeId × Value → H) :
  ReturnsInHanded {} Go.Proofs.Try.checked os 11 .any (Rows.fireStandSpec.pre6 enc Go.Proofs.Try.prog Go.Proofs.Try.f11 Rows.fireStandRow.domain false) (Rows.fireStandSpec.post enc Go.Proofs.Try.prog Go.Proofs.Try.f11 false true false false) := by
 refine returnsInHanded_of_change_sized (C := Go.Proofs.Try.checked) own started (by kernel_rfl) (show Go.Proofs.Try.prog.funcs[11]? = some Go.Proofs.Try.f11 from by kernel_rfl)
  (ChangeSpec.witness6 (enc := enc) (C := Go.Proofs.Try.checked) false ⟨#[], #[.agg #[nl, iv 0, iv 0, iv 0], nl, nl, nl], []⟩ 8 (by kernel_rfl) (by kernel_rfl) (by kernel_rfl) (by kernel_rfl)) ?_
 intro W base args ds gs before hval hW _ hwt _
 exact row_calls (args := k11.args) (pre := law03u_FireStand_p) (val := law03u_FireStand) h11 (fun _ hf => ⟨fun b hb => hf.2.2.2.2 b hb, hf.2.2.2.1⟩) (fun _ => rfl) tabs_ok6 heavy laid (by kernel_rfl) (by kernel_rfl) (B := 4) (by kernel_rfl) bool4 (by kernel_rfl)
  (fun ds hd => by
   match ds, hd with
   | [_, _, _, _], _ => rfl) hval hW hwt
theorem said : Rows.FireStandSaid :=
 OpenClaim.holds_of_wide 11 Go.Proofs.Try.f11 rfl rfl rfl rfl rfl rfl rfl ⟨rfl, rfl, rfl, rfl, rfl⟩ rfl rfl rfl rfl rfl (by kernel_rfl) (show Go.Proofs.Try.prog.funcs[11]? = some Go.Proofs.Try.f11 from by kernel_rfl) (by kernel_rfl)
  (of_decide_eq_true (by kernel_rfl)) (by unfold Func.isWrapper; first | (rw [if_pos (by decide +kernel)]; kernel_rfl) | (rw [if_neg (by decide +kernel)]; exact ⟨rfl, rfl⟩))
  (fun os started H enc _ => lifted os started H enc)
end Go.Fire
namespace Go.Proofs.Ytfjkenhmaebpmaa
theorem fireStand_holds : Rows.FireStandSaid := Go.Fire.said
end Go.Proofs.Ytfjkenhmaebpmaa
