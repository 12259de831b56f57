/-
  FadeGrades returns true for every input, and leaves its arguments as they were.
-/
import Derived.Test.YtjnnbmgodbhofaaFadeP7
import Derived.Test.YtjnnbmgodbhofaaFadeT6
import Derived.Test.YtjnnbmgodbhofaaSH
import Derived.Test.YtjnnbmgodbhofaaRows
import Derived.ProofKit
set_option linter.all false
set_option maxRecDepth 100000
namespace Go.Fade
open Go Go.Sx Go.Proofs.Ytjnnbmgodbhofaa
theorem own : ownKnob Go.Proofs.Try.prog.godebug = none := by kernel_rfl
theorem laid : laidOutB Go.Proofs.Try.prog = true := by kernel_rfl
theorem heavy : T4.heavy Go.Proofs.Try.prog = true := by kernel_rfl
theorem bool4 : Go.Proofs.Try.prog.underlying 4 = some .bool := by kernel_rfl
theorem h33 : Sx.Good Go.Proofs.Try.prog 33 k33 := con_of mixed (show Go.Proofs.Try.prog.funcs[33]? = some Go.Proofs.Try.f33 from by kernel_rfl) (by kernel_rfl) fun x hp => ⟨cx33, mkCx_ok tabs_ok4 trivial trivial trivial, by kernel_rfl, by kernel_rfl, by rw [e33]; exact v33 x hp⟩
theorem h32 : Sx.Good Go.Proofs.Try.prog 32 k32 := con_of mixed (show Go.Proofs.Try.prog.funcs[32]? = some Go.Proofs.Try.f32 from by kernel_rfl) (by kernel_rfl) fun x hp => ⟨cx32, mkCx_ok tabs_ok4 trivial trivial trivial, by kernel_rfl, by kernel_rfl, by rw [e32]; exact v32 x hp⟩
theorem h45 : Sx.Good Go.Proofs.Try.prog 45 k45 := con_of mixed (show Go.Proofs.Try.prog.funcs[45]? = some Go.Proofs.Try.f45 from by kernel_rfl) (by kernel_rfl) fun x hp => ⟨cx45, mkCx_ok tabs_ok4 ⟨h33, h32, trivial⟩ trivial trivial, by kernel_rfl, by kernel_rfl, by rw [e45]; exact v45 x hp⟩
theorem q31u_69 : Sx.GoodQ Go.Proofs.Try.prog i31u_69 := inl_of mixed (show Go.Proofs.Try.prog.funcs[59]? = some Go.Proofs.Try.f59 from by kernel_rfl) (by kernel_rfl) (mkCx_ok tabs_ok4 trivial trivial trivial) rfl rfl
theorem q31u_81 : Sx.GoodQ Go.Proofs.Try.prog i31u_81 := inl_of mixed (show Go.Proofs.Try.prog.funcs[59]? = some Go.Proofs.Try.f59 from by kernel_rfl) (by kernel_rfl) (mkCx_ok tabs_ok4 trivial trivial trivial) rfl rfl
theorem q31u_99 : Sx.GoodQ Go.Proofs.Try.prog i31u_99 := inl_of mixed (show Go.Proofs.Try.prog.funcs[59]? = some Go.Proofs.Try.f59 from by kernel_rfl) (by kernel_rfl) (mkCx_ok tabs_ok4 trivial trivial trivial) rfl rfl
theorem q31u_111 : Sx.GoodQ Go.Proofs.Try.prog i31u_111 := inl_of mixed (show Go.Proofs.Try.prog.funcs[59]? = some Go.Proofs.Try.f59 from by kernel_rfl) (by kernel_rfl) (mkCx_ok tabs_ok4 trivial trivial trivial) rfl rfl
theorem q31u_122 : Sx.GoodQ Go.Proofs.Try.prog i31u_122 := inl_of mixed (show Go.Proofs.Try.prog.funcs[59]? = some Go.Proofs.Try.f59 from by kernel_rfl) (by kernel_rfl) (mkCx_ok tabs_ok4 trivial trivial trivial) rfl rfl
theorem q31u_133 : Sx.GoodQ Go.Proofs.Try.prog i31u_133 := inl_of mixed (show Go.Proofs.Try.prog.funcs[59]? = some Go.Proofs.Try.f59 from by kernel_rfl) (by kernel_rfl) (mkCx_ok tabs_ok4 trivial trivial trivial) rfl rfl
theorem q31u_138 : Sx.GoodQ Go.Proofs.Try.prog i31u_138 := inl_of mixed (show Go.Proofs.Try.prog.funcs[59]? = some Go.Proofs.Try.f59 from by kernel_rfl) (by kernel_rfl) (mkCx_ok tabs_ok4 trivial trivial trivial) rfl rfl
theorem q31u_161 : Sx.GoodQ Go.Proofs.Try.prog i31u_161 := inl_of mixed (show Go.Proofs.Try.prog.funcs[59]? = some Go.Proofs.Try.f59 from by kernel_rfl) (by kernel_rfl) (mkCx_ok tabs_ok4 trivial trivial trivial) rfl rfl
theorem q31u_166 : Sx.GoodQ Go.Proofs.Try.prog i31u_166 := inl_of mixed (show Go.Proofs.Try.prog.funcs[59]? = some Go.Proofs.Try.f59 from by kernel_rfl) (by kernel_rfl) (mkCx_ok tabs_ok4 trivial trivial trivial) rfl rfl
theorem q31u_218 : Sx.GoodQ Go.Proofs.Try.prog i31u_218 := inl_of mixed (show Go.Proofs.Try.prog.funcs[59]? = some Go.Proofs.Try.f59 from by kernel_rfl) (by kernel_rfl) (mkCx_ok tabs_ok4 trivial trivial trivial) rfl rfl
theorem h31 : Sx.Good Go.Proofs.Try.prog 31 k31 := con_of mixed (show Go.Proofs.Try.prog.funcs[31]? = some Go.Proofs.Try.f31 from by kernel_rfl) (by kernel_rfl) fun x hp => ⟨cx31, withInl_ok (withR_ok (mkCx_ok tabs_ok4 ⟨h33, h32, h45, trivial⟩ trivial trivial)) ⟨q31u_69, q31u_81, q31u_99, q31u_111, q31u_122, q31u_133, q31u_138, q31u_161, q31u_166, q31u_218, trivial⟩, by kernel_rfl, by kernel_rfl, by rw [e31]; exact v31 x hp⟩
theorem h8 : Sx.Good Go.Proofs.Try.prog 8 k8 := con_of mixed (show Go.Proofs.Try.prog.funcs[8]? = some Go.Proofs.Try.f8 from by kernel_rfl) (by kernel_rfl) fun x hp => ⟨cx8, mkCx_ok tabs_ok4 ⟨h12, h13, h18, h26, h31, h32, h33, trivial⟩ trivial trivial, by kernel_rfl, by kernel_rfl, by rw [e8]; exact v8 x hp⟩
abbrev iv (n : Int) : Value := .int .i64 n
abbrev nl : Value := .slice none 0 0
theorem lifted (os : Os) (started : os.Started) (H : Type) (enc : TypeId × Value → H) :
  ReturnsInHanded {} Go.Proofs.Try.checked os 8 .any (Rows.fadeGradesSpec.pre6 enc Go.Proofs.Try.prog Go.Proofs.Try.f8 Rows.fadeGradesRow.domain false) (Rows.fadeGradesSpec.post enc Go.Proofs.Try.prog Go.Proofs.Try.f8 false true false false) := by
 refine returnsInHanded_of_change_sized (C := Go.Proofs.Try.checked) own started (by kernel_rfl) (show Go.Proofs.Try.prog.funcs[8]? = some Go.Proofs.Try.f8 from by kernel_rfl)
  (ChangeSpec.witness6 (enc := enc) (C := Go.Proofs.Try.checked) false ⟨#[], #[.agg #[nl, nl, iv 0, nl], iv 0], []⟩ 8 (by kernel_rfl) (by kernel_rfl) (by kernel_rfl) (by kernel_rfl)) ?_
 intro W base args ds gs before hval hW _ hwt _
 exact row_calls (args := k8.args) (pre := law12u_FadeGrades_p) (val := law12u_FadeGrades) h8 (fun _ hf => trivial) (fun _ => rfl) tabs_ok4 heavy laid (by kernel_rfl) (by kernel_rfl) (B := 4) (by kernel_rfl) bool4 (by kernel_rfl)
  (fun ds hd => by
   match ds, hd with
   | [_, _], _ => rfl) hval hW hwt
theorem said : Rows.FadeGradesSaid :=
 OpenClaim.holds_of_wide 8 Go.Proofs.Try.f8 rfl rfl rfl rfl rfl rfl rfl ⟨rfl, rfl, rfl, rfl, rfl⟩ rfl rfl rfl rfl rfl (by kernel_rfl) (show Go.Proofs.Try.prog.funcs[8]? = some Go.Proofs.Try.f8 from by kernel_rfl) (by kernel_rfl)
  (of_decide_eq_true (by kernel_rfl)) (by unfold Func.isWrapper; first | (rw [if_pos (by decide +kernel)]; kernel_rfl) | (rw [if_neg (by decide +kernel)]; exact ⟨rfl, rfl⟩))
  (fun os started H enc _ => lifted os started H enc)
end Go.Fade
namespace Go.Proofs.Ytjnnbmgodbhofaa
theorem fadeGrades_holds : Rows.FadeGradesSaid := Go.Fade.said
end Go.Proofs.Ytjnnbmgodbhofaa
