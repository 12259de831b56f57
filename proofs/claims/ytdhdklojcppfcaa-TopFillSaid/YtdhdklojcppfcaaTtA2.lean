/-
  TopFill returns true for every input, and leaves its arguments as they were.
-/
import Derived.Test.YtdhdklojcppfcaaTtBH
import Derived.Test.YtdhdklojcppfcaaTtRH
import Derived.Test.YtdhdklojcppfcaaTtF2
import Derived.Test.YtdhdklojcppfcaaSH
import Derived.Test.YtdhdklojcppfcaaRows
import Derived.ProofKit
set_option linter.all false
set_option maxRecDepth 100000
namespace Go.Tt
open Go Go.Sx Go.Proofs.Ytdhdklojcppfcaa
theorem own:ownKnob Go.Proofs.Try.prog.godebug=none:=by kernel_rfl
theorem laid:laidOutB Go.Proofs.Try.prog=true:=by kernel_rfl
theorem heavy:TF.heavy Go.Proofs.Try.prog=true:=by kernel_rfl
theorem bool4:Go.Proofs.Try.prog.underlying 4=some .bool:=by kernel_rfl
theorem h20:Sx.Good Go.Proofs.Try.prog 20 k20:=con_of mixed (show Go.Proofs.Try.prog.funcs[20]?=some Go.Proofs.Try.f20 from by kernel_rfl) (by kernel_rfl) fun x hp=>⟨cx20,mkCx_ok tabs_okF ⟨h22,h15,trivial⟩ trivial trivial,by kernel_rfl,by kernel_rfl,by rw [e20];exact v20 x hp⟩
theorem h24:Sx.Good Go.Proofs.Try.prog 24 k24:=con_of mixed (show Go.Proofs.Try.prog.funcs[24]?=some Go.Proofs.Try.f24 from by kernel_rfl) (by kernel_rfl) fun x hp=>⟨cx24,mkCx_ok tabs_okF trivial trivial trivial,by kernel_rfl,by kernel_rfl,by rw [e24];exact v24 x hp⟩
theorem h25:Sx.Good Go.Proofs.Try.prog 25 k25:=con_of mixed (show Go.Proofs.Try.prog.funcs[25]?=some Go.Proofs.Try.f25 from by kernel_rfl) (by kernel_rfl) fun x hp=>⟨cx25,mkCx_ok tabs_okF trivial trivial trivial,by kernel_rfl,by kernel_rfl,by rw [e25];exact v25 x hp⟩
theorem h4:Sx.Good Go.Proofs.Try.prog 4 k4:=con_of mixed (show Go.Proofs.Try.prog.funcs[4]?=some Go.Proofs.Try.f4 from by kernel_rfl) (by kernel_rfl) fun x hp=>⟨cx4,withHld_ok (mkCx_ok tabs_okF ⟨h20,h21,h15,h22,h23,h24,h25,h26,trivial⟩ trivial trivial),by kernel_rfl,by kernel_rfl,by rw [e4];exact v4 x hp⟩
abbrev nl:Value:=.slice none 0 0
theorem lifted (os:Os) (started:os.Started) (H:Type) (enc:TypeId × Value->H) :
  ReturnsInHanded {} Go.Proofs.Try.checked os 4 .any (Rows.topFillSpec.pre6 enc Go.Proofs.Try.prog Go.Proofs.Try.f4 Rows.topFillRow.domain false) (Rows.topFillSpec.post enc Go.Proofs.Try.prog Go.Proofs.Try.f4 false true false false):=by
 refine returnsInHanded_of_change_sized (C:=Go.Proofs.Try.checked) own started (by kernel_rfl) (show Go.Proofs.Try.prog.funcs[4]?=some Go.Proofs.Try.f4 from by kernel_rfl)
  (ChangeSpec.witness6 (enc:=enc) (C:=Go.Proofs.Try.checked) false ⟨#[],#[nl,nl,nl,nl],[]⟩ 8 (by kernel_rfl) (by kernel_rfl) (by kernel_rfl) (by kernel_rfl)) ?_
 intro W base args ds gs before hval hW _ hwt _
 exact row_calls (args:=k4.args) (pre:=top_TopFill_p) (val:=zaZ) h4 (fun _ hf=>trivial) (fun _=>rfl) tabs_okF heavy laid (by kernel_rfl) (by kernel_rfl) (B:=4) (by kernel_rfl) bool4 (by kernel_rfl)
  (fun ds hd=>by
   match ds,hd with
   | [_,_,_,_],_=>rfl) hval hW hwt
theorem said:Rows.TopFillSaid :=
 OpenClaim.holds_of_wide 4 Go.Proofs.Try.f4 rfl rfl rfl rfl rfl rfl rfl ⟨rfl,rfl,rfl,rfl,rfl⟩ rfl rfl rfl rfl rfl (by kernel_rfl) (show Go.Proofs.Try.prog.funcs[4]?=some Go.Proofs.Try.f4 from by kernel_rfl) (by kernel_rfl)
  (of_decide_eq_true (by kernel_rfl)) (by unfold Func.isWrapper;first | (rw [if_pos (by decide +kernel)];kernel_rfl) | (rw [if_neg (by decide +kernel)];exact ⟨rfl,rfl⟩))
  (fun os started H enc _=>lifted os started H enc)
end Go.Tt
namespace Go.Proofs.Ytdhdklojcppfcaa
theorem topFill_holds:Rows.TopFillSaid:=Go.Tt.said
end Go.Proofs.Ytdhdklojcppfcaa
