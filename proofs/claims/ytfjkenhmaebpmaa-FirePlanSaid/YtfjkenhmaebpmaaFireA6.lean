/-
  FirePlan returns true for every input, and leaves its arguments as they were.
-/
import Derived.Test.YtfjkenhmaebpmaaFireH5
import Derived.Test.YtfjkenhmaebpmaaSH
import Derived.Test.YtfjkenhmaebpmaaRows
import Derived.ProofKit
set_option linter.all false
set_option maxRecDepth 100000
namespace Go.Fire
open Go Go.Sx Go.Proofs.Ytfjkenhmaebpmaa
theorem own : ownKnob Go.Proofs.Try.prog.godebug = none := by kernel_rfl
theorem laid : laidOutB Go.Proofs.Try.prog = true := by kernel_rfl
theorem heavy : T5.heavy Go.Proofs.Try.prog = true := by kernel_rfl
theorem bool4 : Go.Proofs.Try.prog.underlying 4 = some .bool := by kernel_rfl
theorem h9 : Sx.Good Go.Proofs.Try.prog 9 k9 := con_of mixed (show Go.Proofs.Try.prog.funcs[9]? = some Go.Proofs.Try.f9 from by kernel_rfl) (by kernel_rfl) fun x hp => ⟨cx9, mkCx_ok tabs_ok5 ⟨h13, h21, h29, h30, h36, h37, trivial⟩ trivial trivial, by kernel_rfl, by kernel_rfl, by rw [e9]; exact v9 x hp⟩
abbrev iv (n : Int) : Value := .int .i64 n
abbrev nl : Value := .slice none 0 0
theorem lifted (os : Os) (started : os.Started) (H : Type) (enc : TypeId × Value → H) :
  ReturnsInHanded {} Go.Proofs.Try.checked os 9 .any (Rows.firePlanSpec.pre6 enc Go.Proofs.Try.prog Go.Proofs.Try.f9 Rows.firePlanRow.domain false) (Rows.firePlanSpec.post enc Go.Proofs.Try.prog Go.Proofs.Try.f9 false true false false) := by
 refine returnsInHanded_of_change_sized (C := Go.Proofs.Try.checked) own started (by kernel_rfl) (show Go.Proofs.Try.prog.funcs[9]? = some Go.Proofs.Try.f9 from by kernel_rfl)
  (ChangeSpec.witness6 (enc := enc) (C := Go.Proofs.Try.checked) false ⟨#[], #[.agg #[nl, iv 0, iv 0, iv 0], .agg #[iv 0, iv 0, iv 0, iv 0, iv 0, iv 0], nl, nl], []⟩ 8 (by kernel_rfl) (by kernel_rfl) (by kernel_rfl) (by kernel_rfl)) ?_
 intro W base args ds gs before hval hW _ hwt _
 exact row_calls (args := k9.args) (pre := law03u_FirePlan_p) (val := law03u_FirePlan) h9 (fun _ hf => fun b hb => hf.2.2.2.2 b hb) (fun _ => rfl) tabs_ok5 heavy laid (by kernel_rfl) (by kernel_rfl) (B := 4) (by kernel_rfl) bool4 (by kernel_rfl)
  (fun ds hd => by
   match ds, hd with
   | [_, _, _, _], _ => rfl) hval hW hwt
theorem said : Rows.FirePlanSaid :=
 OpenClaim.holds_of_wide 9 Go.Proofs.Try.f9 rfl rfl rfl rfl rfl rfl rfl ⟨rfl, rfl, rfl, rfl, rfl⟩ rfl rfl rfl rfl rfl (by kernel_rfl) (show Go.Proofs.Try.prog.funcs[9]? = some Go.Proofs.Try.f9 from by kernel_rfl) (by kernel_rfl)
  (of_decide_eq_true (by kernel_rfl)) (by unfold Func.isWrapper; first | (rw [if_pos (by decide +kernel)]; kernel_rfl) | (rw [if_neg (by decide +kernel)]; exact ⟨rfl, rfl⟩))
  (fun os started H enc _ => lifted os started H enc)
end Go.Fire
namespace Go.Proofs.Ytfjkenhmaebpmaa
theorem firePlan_holds : Rows.FirePlanSaid := Go.Fire.said
end Go.Proofs.Ytfjkenhmaebpmaa
