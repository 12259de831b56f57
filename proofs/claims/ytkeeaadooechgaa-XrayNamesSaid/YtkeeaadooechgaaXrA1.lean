/-
  XrayNames returns true for every input, and leaves its arguments as they were.
-/
import Derived.Test.YtkeeaadooechgaaXrH1
import Derived.Test.YtkeeaadooechgaaSH
import Derived.Test.YtkeeaadooechgaaRows
import Derived.ProofKit
set_option linter.all false
set_option maxRecDepth 100000
namespace Go.Xr
open Go Go.Sx Go.Proofs.Ytkeeaadooechgaa
theorem own:ownKnob Go.Proofs.Try.prog.godebug=none:=by kernel_rfl
theorem laid:laidOutB Go.Proofs.Try.prog=true:=by kernel_rfl
theorem heavy:T.heavy Go.Proofs.Try.prog=true:=by kernel_rfl
theorem bool4:Go.Proofs.Try.prog.underlying 4=some .bool:=by kernel_rfl
theorem q5u_52:Sx.GoodQ Go.Proofs.Try.prog i5u_52:=inl_of mixed (show Go.Proofs.Try.prog.funcs[26]?=some Go.Proofs.Try.f26 from by kernel_rfl) (by kernel_rfl) (mkCx_ok tabs_ok ⟨h25,h14,h26,h16,h18,h20,h22,h27,h13,h24,trivial⟩ trivial trivial) rfl rfl
theorem h5:Sx.Good Go.Proofs.Try.prog 5 k5:=con_of mixed (show Go.Proofs.Try.prog.funcs[5]?=some Go.Proofs.Try.f5 from by kernel_rfl) (by kernel_rfl) fun x hp=>⟨cx5,withInl_ok (mkCx_ok tabs_ok ⟨h25,h14,h26,h16,h18,h20,h22,h27,h13,h24,trivial⟩ trivial trivial) ⟨q5u_52,trivial⟩,by kernel_rfl,by kernel_rfl,by rw [e5];exact v5 x hp⟩
abbrev nl:Value:=.slice none 0 0
theorem lifted (os:Os) (started:os.Started) (H:Type) (enc:TypeId × Value→H) :
  ReturnsInHanded {} Go.Proofs.Try.checked os 5 .any (Rows.xrayNamesSpec.pre6 enc Go.Proofs.Try.prog Go.Proofs.Try.f5 Rows.xrayNamesRow.domain false) (Rows.xrayNamesSpec.post enc Go.Proofs.Try.prog Go.Proofs.Try.f5 false true false false):=by
 refine returnsInHanded_of_change_sized (C:=Go.Proofs.Try.checked) own started (by kernel_rfl) (show Go.Proofs.Try.prog.funcs[5]?=some Go.Proofs.Try.f5 from by kernel_rfl)
  (ChangeSpec.witness6 (enc:=enc) (C:=Go.Proofs.Try.checked) false ⟨#[],#[],[]⟩ 8 (by kernel_rfl) (by kernel_rfl) (by kernel_rfl) (by kernel_rfl)) ?_
 intro W base args ds gs before hval hW _ hwt _
 exact row_calls (args:=k5.args) (pre:=law06u_XrayNames_p) (val:=law06u_XrayNames) h5 (fun _ hf=>trivial) (fun _=>rfl) tabs_ok heavy laid (by kernel_rfl) (by kernel_rfl) (B:=4) (by kernel_rfl) bool4 (by kernel_rfl)
  (fun ds hd=>by
   match ds,hd with
   | [],_=>rfl) hval hW hwt
theorem said:Rows.XrayNamesSaid :=
 OpenClaim.holds_of_wide 5 Go.Proofs.Try.f5 rfl rfl rfl rfl rfl rfl rfl ⟨rfl,rfl,rfl,rfl,rfl⟩ rfl rfl rfl rfl rfl (by kernel_rfl) (show Go.Proofs.Try.prog.funcs[5]?=some Go.Proofs.Try.f5 from by kernel_rfl) (by kernel_rfl)
  (of_decide_eq_true (by kernel_rfl)) (by unfold Func.isWrapper;first | (rw [if_pos (by decide +kernel)];kernel_rfl) | (rw [if_neg (by decide +kernel)];exact ⟨rfl,rfl⟩))
  (fun os started H enc _=>lifted os started H enc)
end Go.Xr
namespace Go.Proofs.Ytkeeaadooechgaa
theorem xrayNames_holds:Rows.XrayNamesSaid:=Go.Xr.said
end Go.Proofs.Ytkeeaadooechgaa
