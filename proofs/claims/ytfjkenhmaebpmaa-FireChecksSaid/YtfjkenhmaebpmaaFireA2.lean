/-
  FireChecks returns true for every input, and leaves its arguments as they were.
-/
import Derived.Test.YtfjkenhmaebpmaaFireP11
import Derived.Test.YtfjkenhmaebpmaaSH
import Derived.Test.YtfjkenhmaebpmaaRows
import Derived.ProofKit
set_option linter.all false


set_option maxRecDepth 100000
namespace Go.Fire
open Go Go.Sx Go.Proofs.Ytfjkenhmaebpmaa

theorem own : ownKnob Go.Proofs.Try.prog.godebug = none := by kernel_rfl
theorem laid : laidOutB Go.Proofs.Try.prog = true := by kernel_rfl
theorem heavy : T2.heavy Go.Proofs.Try.prog = true := by kernel_rfl
theorem bool4 : Go.Proofs.Try.prog.underlying 4 = some .bool := by kernel_rfl
theorem h45 : Sx.Good Go.Proofs.Try.prog 45 k45 := con_of mixed (show Go.Proofs.Try.prog.funcs[45]? = some Go.Proofs.Try.f45 from by kernel_rfl) (by kernel_rfl) fun x hp => ⟨cx45, mkCx_ok tabs_ok2 trivial trivial trivial, by kernel_rfl, by kernel_rfl, by rw [e45]; exact v45 x hp⟩
theorem h46 : Sx.Good Go.Proofs.Try.prog 46 k46 := con_of mixed (show Go.Proofs.Try.prog.funcs[46]? = some Go.Proofs.Try.f46 from by kernel_rfl) (by kernel_rfl) fun x hp => ⟨cx46, mkCx_ok tabs_ok2 trivial trivial trivial, by kernel_rfl, by kernel_rfl, by rw [e46]; exact v46 x hp⟩
theorem h47 : Sx.Good Go.Proofs.Try.prog 47 k47 := con_of mixed (show Go.Proofs.Try.prog.funcs[47]? = some Go.Proofs.Try.f47 from by kernel_rfl) (by kernel_rfl) fun x hp => ⟨cx47, mkCx_ok tabs_ok2 trivial trivial trivial, by kernel_rfl, by kernel_rfl, by rw [e47]; exact v47 x hp⟩
theorem h75 : Sx.Good Go.Proofs.Try.prog 75 k75 := con_of mixed (show Go.Proofs.Try.prog.funcs[75]? = some Go.Proofs.Try.f75 from by kernel_rfl) (by kernel_rfl) fun x hp => ⟨cx75, mkCx_ok tabs_ok2 trivial trivial trivial, by kernel_rfl, by kernel_rfl, by rw [e75]; exact v75 x hp⟩
theorem h76 : Sx.Good Go.Proofs.Try.prog 76 k76 := con_of mixed (show Go.Proofs.Try.prog.funcs[76]? = some Go.Proofs.Try.f76 from by kernel_rfl) (by kernel_rfl) fun x hp => ⟨cx76, mkCx_ok tabs_ok2 ⟨h46, trivial⟩ trivial trivial, by kernel_rfl, by kernel_rfl, by rw [e76]; exact v76 x hp⟩
theorem h51 : Sx.Good Go.Proofs.Try.prog 51 k51 := con_of mixed (show Go.Proofs.Try.prog.funcs[51]? = some Go.Proofs.Try.f51 from by kernel_rfl) (by kernel_rfl) fun x hp => ⟨cx51, mkCx_ok tabs_ok2 ⟨h47, h75, h76, trivial⟩ trivial trivial, by kernel_rfl, by kernel_rfl, by rw [e51]; exact v51 x hp⟩
theorem h74 : Sx.Good Go.Proofs.Try.prog 74 k74 := con_of mixed (show Go.Proofs.Try.prog.funcs[74]? = some Go.Proofs.Try.f74 from by kernel_rfl) (by kernel_rfl) fun x hp => ⟨cx74, mkCx_ok tabs_ok2 ⟨h30, trivial⟩ trivial trivial, by kernel_rfl, by kernel_rfl, by rw [e74]; exact v74 x hp⟩
theorem h50 : Sx.Good Go.Proofs.Try.prog 50 k50 := con_of mixed (show Go.Proofs.Try.prog.funcs[50]? = some Go.Proofs.Try.f50 from by kernel_rfl) (by kernel_rfl) fun x hp => ⟨cx50, mkCx_ok tabs_ok2 ⟨h29, h74, h31, trivial⟩ trivial trivial, by kernel_rfl, by kernel_rfl, by rw [e50]; exact v50 x hp⟩
theorem h15 : Sx.Good Go.Proofs.Try.prog 15 k15 := con_of mixed (show Go.Proofs.Try.prog.funcs[15]? = some Go.Proofs.Try.f15 from by kernel_rfl) (by kernel_rfl) fun x hp => ⟨cx15, mkCx_ok tabs_ok2 ⟨h29, h44, h46, h45, h47, trivial⟩ trivial trivial, by kernel_rfl, by kernel_rfl, by rw [e15]; exact v15 x hp⟩
theorem h17 : Sx.Good Go.Proofs.Try.prog 17 k17 := con_of mixed (show Go.Proofs.Try.prog.funcs[17]? = some Go.Proofs.Try.f17 from by kernel_rfl) (by kernel_rfl) fun x hp => ⟨cx17, mkCx_ok tabs_ok2 ⟨h50, h51, trivial⟩ trivial trivial, by kernel_rfl, by kernel_rfl, by rw [e17]; exact v17 x hp⟩
theorem h19 : Sx.Good Go.Proofs.Try.prog 19 k19 := con_of mixed (show Go.Proofs.Try.prog.funcs[19]? = some Go.Proofs.Try.f19 from by kernel_rfl) (by kernel_rfl) fun x hp => ⟨cx19, mkCx_ok tabs_ok2 ⟨h50, h44, h51, trivial⟩ trivial trivial, by kernel_rfl, by kernel_rfl, by rw [e19]; exact v19 x hp⟩
theorem h3 : Sx.Good Go.Proofs.Try.prog 3 k3 := con_of mixed (show Go.Proofs.Try.prog.funcs[3]? = some Go.Proofs.Try.f3 from by kernel_rfl) (by kernel_rfl) fun x hp => ⟨cx3, mkCx_ok tabs_ok2 ⟨h13, h14, h15, h16, h17, h18, h19, h20, trivial⟩ trivial trivial, by kernel_rfl, by kernel_rfl, by rw [e3]; exact v3 x hp⟩
abbrev iv (n : Int) : Value := .int .i64 n
abbrev nl : Value := .slice none 0 0
theorem lifted (os : Os) (started : os.Started) (H : Type) (enc : TypeId × Value → H) :
    ReturnsInHanded {} Go.Proofs.Try.checked os 3 .any (Rows.fireChecksSpec.pre6 enc Go.Proofs.Try.prog Go.Proofs.Try.f3 Rows.fireChecksRow.domain false) (Rows.fireChecksSpec.post enc Go.Proofs.Try.prog Go.Proofs.Try.f3 false true false false) := by
  refine returnsInHanded_of_change_sized (C := Go.Proofs.Try.checked) own started (by kernel_rfl) (show Go.Proofs.Try.prog.funcs[3]? = some Go.Proofs.Try.f3 from by kernel_rfl)
    (ChangeSpec.witness6 (enc := enc) (C := Go.Proofs.Try.checked) false ⟨#[], #[.agg #[nl, iv 0, iv 0, iv 0], .agg #[iv 0, iv 0, iv 0, iv 0, iv 0, iv 0], nl, iv 0, iv 0], []⟩ 8 (by kernel_rfl) (by kernel_rfl) (by kernel_rfl) (by kernel_rfl)) ?_
  intro W base args ds gs before hval hW _ hwt _
  exact row_calls (args := k3.args) (pre := law03u_FireChecks_p) (val := law03u_FireChecks) h3 (fun _ hf => trivial) (fun _ => rfl) tabs_ok2 heavy laid (by kernel_rfl) (by kernel_rfl) (B := 4) (by kernel_rfl) bool4 (by kernel_rfl)
    (fun ds hd => by
      match ds, hd with
      | [_, _, _, _, _], _ => rfl) hval hW hwt
theorem said : Rows.FireChecksSaid :=
  OpenClaim.holds_of_wide 3 Go.Proofs.Try.f3 rfl rfl rfl rfl rfl rfl rfl ⟨rfl, rfl, rfl, rfl, rfl⟩ rfl rfl rfl rfl rfl (by kernel_rfl) (show Go.Proofs.Try.prog.funcs[3]? = some Go.Proofs.Try.f3 from by kernel_rfl) (by kernel_rfl)
    (of_decide_eq_true (by kernel_rfl)) (by unfold Func.isWrapper; first | (rw [if_pos (by decide +kernel)]; kernel_rfl) | (rw [if_neg (by decide +kernel)]; exact ⟨rfl, rfl⟩))
    (fun os started H enc _ => lifted os started H enc)
end Go.Fire
namespace Go.Proofs.Ytfjkenhmaebpmaa
/-- FireChecks returns true for every input, and leaves its arguments as they were. -/
theorem fireChecks_holds : Rows.FireChecksSaid := Go.Fire.said
end Go.Proofs.Ytfjkenhmaebpmaa
