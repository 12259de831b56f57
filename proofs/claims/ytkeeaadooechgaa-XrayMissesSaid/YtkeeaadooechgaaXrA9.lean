/-
  XrayMisses returns true for every input, and leaves its arguments as they were.
-/
import Derived.Test.YtkeeaadooechgaaXrH2
import Derived.Test.YtkeeaadooechgaaXrQ7
import Derived.Test.YtkeeaadooechgaaSH
import Derived.Test.YtkeeaadooechgaaRows
import Derived.ProofKit
set_option linter.all false
set_option maxRecDepth 100000
namespace Go.Xr
open Go Go.Sx Go.Proofs.Ytkeeaadooechgaa
theorem own:ownKnob Go.Proofs.Try.prog.godebug=none:=by kernel_rfl
theorem laid:laidOutB Go.Proofs.Try.prog=true:=by kernel_rfl
theorem heavy:T5.heavy Go.Proofs.Try.prog=true:=by kernel_rfl
theorem bool4:Go.Proofs.Try.prog.underlying 4=some .bool:=by kernel_rfl
theorem h21:Sx.Good Go.Proofs.Try.prog 21 k21:=con_of mixed (show Go.Proofs.Try.prog.funcs[21]?=some Go.Proofs.Try.f21 from by kernel_rfl) (by kernel_rfl) fun x hp=>⟨cx21,mkCx_ok tabs_ok5 ⟨h15,trivial⟩ trivial trivial,by kernel_rfl,by kernel_rfl,by rw [e21];exact v21 x hp⟩
theorem h47:Sx.Good Go.Proofs.Try.prog 47 k47:=con_of mixed (show Go.Proofs.Try.prog.funcs[47]?=some Go.Proofs.Try.f47 from by kernel_rfl) (by kernel_rfl) fun x hp=>⟨cx47,mkCx_ok tabs_ok5 ⟨h21,trivial⟩ trivial trivial,by kernel_rfl,by kernel_rfl,by rw [e47];exact v47 x hp⟩
theorem h48:Sx.Good Go.Proofs.Try.prog 48 k48:=con_rec m48 mixed (show Go.Proofs.Try.prog.funcs[48]?=some Go.Proofs.Try.f48 from by kernel_rfl) (by kernel_rfl) fun x hp own=>⟨(cx48 x),mkCx_ok tabs_ok5 ⟨h47,own,trivial⟩ trivial trivial,by kernel_rfl,by kernel_rfl,by rw [e48];exact v48 x hp⟩
theorem h23:Sx.Good Go.Proofs.Try.prog 23 k23:=con_of mixed (show Go.Proofs.Try.prog.funcs[23]?=some Go.Proofs.Try.f23 from by kernel_rfl) (by kernel_rfl) fun x hp=>⟨cx23,mkCx_ok tabs_ok5 ⟨h28,h46,h47,h48,trivial⟩ trivial trivial,by kernel_rfl,by kernel_rfl,by rw [e23];exact v23 x hp⟩
theorem h4:Sx.Good Go.Proofs.Try.prog 4 k4:=con_of mixed (show Go.Proofs.Try.prog.funcs[4]?=some Go.Proofs.Try.f4 from by kernel_rfl) (by kernel_rfl) fun x hp=>⟨cx4,mkCx_ok tabs_ok5 ⟨h12,h13,h20,h21,h22,h23,h24,trivial⟩ trivial trivial,by kernel_rfl,by kernel_rfl,by rw [e4];exact v4 x hp⟩
abbrev iv (n:Int):Value:=.int .i64 n
abbrev nl:Value:=.slice none 0 0
theorem lifted (os:Os) (started:os.Started) (H:Type) (enc:TypeId × Value→H) :
  ReturnsInHanded {} Go.Proofs.Try.checked os 4 .any (Rows.xrayMissesSpec.pre6 enc Go.Proofs.Try.prog Go.Proofs.Try.f4 Rows.xrayMissesRow.domain false) (Rows.xrayMissesSpec.post enc Go.Proofs.Try.prog Go.Proofs.Try.f4 false true false false):=by
 refine returnsInHanded_of_change_sized (C:=Go.Proofs.Try.checked) own started (by kernel_rfl) (show Go.Proofs.Try.prog.funcs[4]?=some Go.Proofs.Try.f4 from by kernel_rfl)
  (ChangeSpec.witness6 (enc:=enc) (C:=Go.Proofs.Try.checked) false ⟨#[],#[.agg #[nl,iv 0,iv 0,iv 0],nl,iv 0],[]⟩ 8 (by kernel_rfl) (by kernel_rfl) (by kernel_rfl) (by kernel_rfl)) ?_
 intro W base args ds gs before hval hW _ hwt _
 exact row_calls (args:=k4.args) (pre:=law06u_XrayMisses_p) (val:=law06u_XrayMisses) h4 (fun _ hf=>trivial) (fun _=>rfl) tabs_ok5 heavy laid (by kernel_rfl) (by kernel_rfl) (B:=4) (by kernel_rfl) bool4 (by kernel_rfl)
  (fun ds hd=>by
   match ds,hd with
   | [_,_,_],_=>rfl) hval hW hwt
theorem said:Rows.XrayMissesSaid :=
 OpenClaim.holds_of_wide 4 Go.Proofs.Try.f4 rfl rfl rfl rfl rfl rfl rfl ⟨rfl,rfl,rfl,rfl,rfl⟩ rfl rfl rfl rfl rfl (by kernel_rfl) (show Go.Proofs.Try.prog.funcs[4]?=some Go.Proofs.Try.f4 from by kernel_rfl) (by kernel_rfl)
  (of_decide_eq_true (by kernel_rfl)) (by unfold Func.isWrapper;first | (rw [if_pos (by decide +kernel)];kernel_rfl) | (rw [if_neg (by decide +kernel)];exact ⟨rfl,rfl⟩))
  (fun os started H enc _=>lifted os started H enc)
end Go.Xr
namespace Go.Proofs.Ytkeeaadooechgaa
theorem xrayMisses_holds:Rows.XrayMissesSaid:=Go.Xr.said
end Go.Proofs.Ytkeeaadooechgaa
