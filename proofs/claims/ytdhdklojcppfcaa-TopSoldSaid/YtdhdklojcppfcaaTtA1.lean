/-
  TopSold returns true for every input, and leaves its arguments as they were.
-/
import Derived.Test.YtdhdklojcppfcaaTtOH
import Derived.Test.YtdhdklojcppfcaaTtSH
import Derived.Test.YtdhdklojcppfcaaTtL2
import Derived.Test.YtdhdklojcppfcaaSH
import Derived.Test.YtdhdklojcppfcaaRows
import Derived.ProofKit
set_option linter.all false
set_option maxRecDepth 100000
namespace Go.Tt
open Go Go.Sx Go.Proofs.Ytdhdklojcppfcaa
theorem own:ownKnob Go.Proofs.Try.prog.godebug=none:=by kernel_rfl
theorem laid:laidOutB Go.Proofs.Try.prog=true:=by kernel_rfl
theorem heavy:TL.heavy Go.Proofs.Try.prog=true:=by kernel_rfl
theorem bool4:Go.Proofs.Try.prog.underlying 4=some .bool:=by kernel_rfl
theorem h37:Sx.Good Go.Proofs.Try.prog 37 k37:=con_of mixed (show Go.Proofs.Try.prog.funcs[37]?=some Go.Proofs.Try.f37 from by kernel_rfl) (by kernel_rfl) fun x hp=>⟨cx37,mkCx_ok tabs_okL trivial trivial trivial,by kernel_rfl,by kernel_rfl,by rw [e37];exact v37 x hp⟩
theorem h36:Sx.Good Go.Proofs.Try.prog 36 k36:=con_of mixed (show Go.Proofs.Try.prog.funcs[36]?=some Go.Proofs.Try.f36 from by kernel_rfl) (by kernel_rfl) fun x hp=>⟨cx36,mkCx_ok tabs_okL ⟨h15,h41,trivial⟩ trivial trivial,by kernel_rfl,by kernel_rfl,by rw [e36];exact v36 x hp⟩
theorem h6:Sx.Good Go.Proofs.Try.prog 6 k6:=con_of mixed (show Go.Proofs.Try.prog.funcs[6]?=some Go.Proofs.Try.f6 from by kernel_rfl) (by kernel_rfl) fun x hp=>⟨cx6,zcu (withNlp_ok (mkCx_ok tabs_okL ⟨h36,h37,h21,h15,h38,h39,trivial⟩ trivial trivial)),by kernel_rfl,by kernel_rfl,by rw [e6];exact v6 x hp⟩
abbrev nl:Value:=.slice none 0 0
theorem lifted (os:Os) (started:os.Started) (H:Type) (enc:TypeId × Value->H) :
  ReturnsInHanded {} Go.Proofs.Try.checked os 6 .any (Rows.topSoldSpec.pre6 enc Go.Proofs.Try.prog Go.Proofs.Try.f6 Rows.topSoldRow.domain false) (Rows.topSoldSpec.post enc Go.Proofs.Try.prog Go.Proofs.Try.f6 false true false false):=by
 refine returnsInHanded_of_change_sized (C:=Go.Proofs.Try.checked) own started (by kernel_rfl) (show Go.Proofs.Try.prog.funcs[6]?=some Go.Proofs.Try.f6 from by kernel_rfl)
  (ChangeSpec.witness6 (enc:=enc) (C:=Go.Proofs.Try.checked) false ⟨#[],#[nl,nl,nl,nl],[]⟩ 8 (by kernel_rfl) (by kernel_rfl) (by kernel_rfl) (by kernel_rfl)) ?_
 intro W base args ds gs before hval hW _ hwt _
 exact row_calls (args:=k6.args) (pre:=top_TopSold_p) (val:=zbA) h6 (fun _ hf=>trivial) (fun _=>rfl) tabs_okL heavy laid (by kernel_rfl) (by kernel_rfl) (B:=4) (by kernel_rfl) bool4 (by kernel_rfl)
  (fun ds hd=>by
   match ds,hd with
   | [_,_,_,_],_=>rfl) hval hW hwt
theorem said:Rows.TopSoldSaid :=
 OpenClaim.holds_of_wide 6 Go.Proofs.Try.f6 rfl rfl rfl rfl rfl rfl rfl ⟨rfl,rfl,rfl,rfl,rfl⟩ rfl rfl rfl rfl rfl (by kernel_rfl) (show Go.Proofs.Try.prog.funcs[6]?=some Go.Proofs.Try.f6 from by kernel_rfl) (by kernel_rfl)
  (of_decide_eq_true (by kernel_rfl)) (by unfold Func.isWrapper;first | (rw [if_pos (by decide +kernel)];kernel_rfl) | (rw [if_neg (by decide +kernel)];exact ⟨rfl,rfl⟩))
  (fun os started H enc _=>lifted os started H enc)
end Go.Tt
namespace Go.Proofs.Ytdhdklojcppfcaa
theorem topSold_holds:Rows.TopSoldSaid:=Go.Tt.said
end Go.Proofs.Ytdhdklojcppfcaa
