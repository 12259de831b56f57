/-
  FirePlans returns true for every input, and leaves its arguments as they were.
-/
import Derived.Test.YtfjkenhmaebpmaaFireP24
import Derived.Test.YtfjkenhmaebpmaaSH
import Derived.Test.YtfjkenhmaebpmaaRows
import Derived.ProofKit
set_option linter.all false
set_option maxRecDepth 100000
namespace Go.Fire
open Go Go.Sx Go.Proofs.Ytfjkenhmaebpmaa
theorem own:ownKnob Go.Proofs.Try.prog.godebug=none:=by kernel_rfl
theorem laid:laidOutB Go.Proofs.Try.prog=true:=by kernel_rfl
theorem heavy:T7.heavy Go.Proofs.Try.prog=true:=by kernel_rfl
theorem bool4:Go.Proofs.Try.prog.underlying 4=some .bool:=by kernel_rfl
theorem h61:Sx.Good Go.Proofs.Try.prog 61 k61:=con_of mixed (show Go.Proofs.Try.prog.funcs[61]?=some Go.Proofs.Try.f61 from by kernel_rfl) (by kernel_rfl) fun x hp=>⟨cx61,mkCx_ok tabs_ok7 ⟨h47,trivial⟩ trivial trivial,by kernel_rfl,by kernel_rfl,by rw [e61];exact v61 x hp⟩
theorem h86:Sx.Good Go.Proofs.Try.prog 86 k86:=con_of mixed (show Go.Proofs.Try.prog.funcs[86]?=some Go.Proofs.Try.f86 from by kernel_rfl) (by kernel_rfl) fun x hp=>⟨cx86,mkCx_ok tabs_ok7 ⟨h46,trivial⟩ trivial trivial,by kernel_rfl,by kernel_rfl,by rw [e86];exact v86 x hp⟩
theorem h60:Sx.Good Go.Proofs.Try.prog 60 k60:=con_of mixed (show Go.Proofs.Try.prog.funcs[60]?=some Go.Proofs.Try.f60 from by kernel_rfl) (by kernel_rfl) fun x hp=>⟨cx60,mkCx_ok tabs_ok7 ⟨h86,trivial⟩ trivial trivial,by kernel_rfl,by kernel_rfl,by rw [e60];exact v60 x hp⟩
theorem h59:Sx.Good Go.Proofs.Try.prog 59 k59:=con_of mixed (show Go.Proofs.Try.prog.funcs[59]?=some Go.Proofs.Try.f59 from by kernel_rfl) (by kernel_rfl) fun x hp=>⟨cx59,mkCx_ok tabs_ok7 ⟨h61,h75,trivial⟩ trivial trivial,by kernel_rfl,by kernel_rfl,by rw [e59];exact v59 x hp⟩
theorem h22:Sx.Good Go.Proofs.Try.prog 22 k22:=con_of mixed (show Go.Proofs.Try.prog.funcs[22]?=some Go.Proofs.Try.f22 from by kernel_rfl) (by kernel_rfl) fun x hp=>⟨cx22,withR_ok (mkCx_ok tabs_ok7 ⟨h29,h30,h36,h59,h60,h61,trivial⟩ trivial trivial),by kernel_rfl,by kernel_rfl,by rw [e22];exact v22 x hp⟩
theorem h4:Sx.Good Go.Proofs.Try.prog 4 k4:=con_of mixed (show Go.Proofs.Try.prog.funcs[4]?=some Go.Proofs.Try.f4 from by kernel_rfl) (by kernel_rfl) fun x hp=>⟨cx4,mkCx_ok tabs_ok7 ⟨h13,h21,h22,h20,trivial⟩ trivial trivial,by kernel_rfl,by kernel_rfl,by rw [e4];exact v4 x hp⟩
abbrev iv (n:Int):Value:=.int .i64 n
abbrev nl:Value:=.slice none 0 0
theorem lifted (os:Os) (started:os.Started) (H:Type) (enc:TypeId × Value→H) :
  ReturnsInHanded {} Go.Proofs.Try.checked os 4 .any (Rows.firePlansSpec.pre6 enc Go.Proofs.Try.prog Go.Proofs.Try.f4 Rows.firePlansRow.domain false) (Rows.firePlansSpec.post enc Go.Proofs.Try.prog Go.Proofs.Try.f4 false true false false):=by
 refine returnsInHanded_of_change_sized (C:=Go.Proofs.Try.checked) own started (by kernel_rfl) (show Go.Proofs.Try.prog.funcs[4]?=some Go.Proofs.Try.f4 from by kernel_rfl)
  (ChangeSpec.witness6 (enc:=enc) (C:=Go.Proofs.Try.checked) false ⟨#[],#[.agg #[nl,iv 0,iv 0,iv 0],.agg #[iv 0,iv 0,iv 0,iv 0,iv 0,iv 0],nl],[]⟩ 8 (by kernel_rfl) (by kernel_rfl) (by kernel_rfl) (by kernel_rfl)) ?_
 intro W base args ds gs before hval hW _ hwt _
 exact row_calls (args:=k4.args) (pre:=law03u_FirePlans_p) (val:=law03u_FirePlans) h4 (fun _ hf=>trivial) (fun _=>rfl) tabs_ok7 heavy laid (by kernel_rfl) (by kernel_rfl) (B:=4) (by kernel_rfl) bool4 (by kernel_rfl)
  (fun ds hd=>by
   match ds,hd with
   | [_,_,_],_=>rfl) hval hW hwt
theorem said:Rows.FirePlansSaid :=
 OpenClaim.holds_of_wide 4 Go.Proofs.Try.f4 rfl rfl rfl rfl rfl rfl rfl ⟨rfl,rfl,rfl,rfl,rfl⟩ rfl rfl rfl rfl rfl (by kernel_rfl) (show Go.Proofs.Try.prog.funcs[4]?=some Go.Proofs.Try.f4 from by kernel_rfl) (by kernel_rfl)
  (of_decide_eq_true (by kernel_rfl)) (by unfold Func.isWrapper;first | (rw [if_pos (by decide +kernel)];kernel_rfl) | (rw [if_neg (by decide +kernel)];exact ⟨rfl,rfl⟩))
  (fun os started H enc _=>lifted os started H enc)
end Go.Fire
namespace Go.Proofs.Ytfjkenhmaebpmaa
theorem firePlans_holds:Rows.FirePlansSaid:=Go.Fire.said
end Go.Proofs.Ytfjkenhmaebpmaa
