/-
  DiePlans returns true for every input, and leaves its arguments as they were.
-/
import Derived.Test.YtihkgphflgojeaaDieN3
import Derived.Test.YtihkgphflgojeaaSH
import Derived.Test.YtihkgphflgojeaaRows
import Derived.ProofKit
set_option linter.all false


set_option maxRecDepth 100000
namespace Go.Die
open Go Go.Sx Go.Proofs.Ytihkgphflgojeaa

theorem own : ownKnob Go.Proofs.Try.prog.godebug = none := by kernel_rfl
theorem laid : laidOutB Go.Proofs.Try.prog = true := by kernel_rfl
theorem heavy : T2.heavy Go.Proofs.Try.prog = true := by kernel_rfl
theorem bool4 : Go.Proofs.Try.prog.underlying 4 = some .bool := by kernel_rfl
theorem h22 : Sx.Good Go.Proofs.Try.prog 22 k22 := con_of mixed (show Go.Proofs.Try.prog.funcs[22]? = some Go.Proofs.Try.f22 from by kernel_rfl) (by kernel_rfl) fun x hp => ⟨cx22, mkCx_ok tabs_ok2 trivial trivial trivial, by kernel_rfl, by kernel_rfl, by rw [e22]; exact v22 x hp⟩
theorem h45 : Sx.GoodL Go.Proofs.Try.prog 45 k45 := lcon_rec m45 mixed (show Go.Proofs.Try.prog.funcs[45]? = some Go.Proofs.Try.f45 from by kernel_rfl) (by kernel_rfl) fun x hp own => ⟨(cx45 x), mkCx_ok tabs_ok2 trivial ⟨own, trivial⟩ trivial, by kernel_rfl, by kernel_rfl, by rw [e45]; exact v45 x hp⟩
theorem h19 : Sx.Good Go.Proofs.Try.prog 19 k19 := con_of mixed (show Go.Proofs.Try.prog.funcs[19]? = some Go.Proofs.Try.f19 from by kernel_rfl) (by kernel_rfl) fun x hp => ⟨cx19, mkCx_ok tabs_ok2 ⟨h20, h21, h16, h22, trivial⟩ ⟨h45, trivial⟩ trivial, by kernel_rfl, by kernel_rfl, by rw [e19]; exact v19 x hp⟩
theorem h4 : Sx.Good Go.Proofs.Try.prog 4 k4 := con_of mixed (show Go.Proofs.Try.prog.funcs[4]? = some Go.Proofs.Try.f4 from by kernel_rfl) (by kernel_rfl) fun x hp => ⟨cx4, mkCxN_ok tabs_ok2 ⟨h9, h10, h19, h17, trivial⟩ trivial trivial ⟨h18, trivial⟩, by kernel_rfl, by kernel_rfl, by rw [e4]; exact v4 x hp⟩
abbrev iv (n : Int) : Value := .int .i64 n
abbrev nl : Value := .slice none 0 0
theorem lifted (os : Os) (started : os.Started) (H : Type) (enc : TypeId × Value → H) :
    ReturnsInHanded {} Go.Proofs.Try.checked os 4 .any (Rows.diePlansSpec.pre6 enc Go.Proofs.Try.prog Go.Proofs.Try.f4 Rows.diePlansRow.domain false) (Rows.diePlansSpec.post enc Go.Proofs.Try.prog Go.Proofs.Try.f4 false true false false) := by
  refine returnsInHanded_of_change_sized (C := Go.Proofs.Try.checked) own started (by kernel_rfl) (show Go.Proofs.Try.prog.funcs[4]? = some Go.Proofs.Try.f4 from by kernel_rfl)
    (ChangeSpec.witness6 (enc := enc) (C := Go.Proofs.Try.checked) false ⟨#[], #[.agg #[nl, iv 0, iv 0, iv 0], nl], []⟩ 8 (by kernel_rfl) (by kernel_rfl) (by kernel_rfl) (by kernel_rfl)) ?_
  intro W base args ds gs before hval hW _ hwt _
  exact row_calls (args := k4.args) (pre := law04u_DiePlans_p) (val := law04u_DiePlans) h4 (fun _ hf => trivial) (fun _ => rfl) tabs_ok2 heavy laid (by kernel_rfl) (by kernel_rfl) (B := 4) (by kernel_rfl) bool4 (by kernel_rfl)
    (fun ds hd => by
      match ds, hd with
      | [_, _], _ => rfl) hval hW hwt
theorem said : Rows.DiePlansSaid :=
  OpenClaim.holds_of_wide 4 Go.Proofs.Try.f4 rfl rfl rfl rfl rfl rfl rfl ⟨rfl, rfl, rfl, rfl, rfl⟩ rfl rfl rfl rfl rfl (by kernel_rfl) (show Go.Proofs.Try.prog.funcs[4]? = some Go.Proofs.Try.f4 from by kernel_rfl) (by kernel_rfl)
    (of_decide_eq_true (by kernel_rfl)) (by unfold Func.isWrapper; first | (rw [if_pos (by decide +kernel)]; kernel_rfl) | (rw [if_neg (by decide +kernel)]; exact ⟨rfl, rfl⟩))
    (fun os started H enc _ => lifted os started H enc)
end Go.Die
namespace Go.Proofs.Ytihkgphflgojeaa
/-- DiePlans returns true for every input, and leaves its arguments as they were. -/
theorem diePlans_holds : Rows.DiePlansSaid := Go.Die.said
end Go.Proofs.Ytihkgphflgojeaa
