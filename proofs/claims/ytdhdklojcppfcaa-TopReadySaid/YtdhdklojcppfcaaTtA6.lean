/-
  TopReady returns true for every input, and leaves its arguments as they were.
-/
import Derived.Test.YtdhdklojcppfcaaTtVH
import Derived.Test.YtdhdklojcppfcaaSH
import Derived.Test.YtdhdklojcppfcaaRows
import Derived.ProofKit
set_option linter.all false
set_option maxRecDepth 100000
namespace Go.Tt
open Go Go.Sx Go.Proofs.Ytdhdklojcppfcaa
theorem own:ownKnob Go.Proofs.Try.prog.godebug=none:=by kernel_rfl
theorem laid:laidOutB Go.Proofs.Try.prog=true:=by kernel_rfl
theorem heavy:TV.heavy Go.Proofs.Try.prog=true:=by kernel_rfl
theorem bool4:Go.Proofs.Try.prog.underlying 4=some .bool:=by kernel_rfl
theorem h43:Sx.Good Go.Proofs.Try.prog 43 k43:=con_of mixed (show Go.Proofs.Try.prog.funcs[43]?=some Go.Proofs.Try.f43 from by kernel_rfl) (by kernel_rfl) fun x hp=>⟨cx43,mkCx_ok zaj ⟨h44,h41,h111,trivial⟩ trivial trivial,by kernel_rfl,by kernel_rfl,by rw [e43];exact v43 x hp⟩
theorem h8:Sx.Good Go.Proofs.Try.prog 8 k8:=con_of mixed (show Go.Proofs.Try.prog.funcs[8]?=some Go.Proofs.Try.f8 from by kernel_rfl) (by kernel_rfl) fun x hp=>⟨cx8,zeH (zhP (mkCx_ok zaj ⟨h42,h43,h44,h45,h41,h46,h47,trivial⟩ trivial trivial)),by kernel_rfl,by kernel_rfl,by rw [e8];exact v8 x hp⟩
abbrev iv (n:Int):Value:=.int .i64 n
abbrev nl:Value:=.slice none 0 0
theorem lifted (os:Os) (started:os.Started) (H:Type) (enc:TypeId × Value->H) :
  ReturnsInHanded {} Go.Proofs.Try.checked os 8 .any (Rows.topReadySpec.pre6 enc Go.Proofs.Try.prog Go.Proofs.Try.f8 Rows.topReadyRow.domain false) (Rows.topReadySpec.post enc Go.Proofs.Try.prog Go.Proofs.Try.f8 false true false false):=by
 refine returnsInHanded_of_change_sized (C:=Go.Proofs.Try.checked) own started (by kernel_rfl) (show Go.Proofs.Try.prog.funcs[8]?=some Go.Proofs.Try.f8 from by kernel_rfl)
  (ChangeSpec.witness6 (enc:=enc) (C:=Go.Proofs.Try.checked) false ⟨#[],#[.agg #[iv 0,iv 0,nl],.int .u16 0],[]⟩ 8 (by kernel_rfl) (by kernel_rfl) (by kernel_rfl) (by kernel_rfl)) ?_
 intro W base args ds gs before hval hW _ hwt _
 exact zmM (args:=k8.args) (pre:=zeY) (val:=zbt) h8 (fun _ hf=>⟨⟨hf.1.2.2.1,fun b hb=>(hf.1.2.2.2 b hb).1.1⟩,hf.2⟩) (fun _=>rfl) zaj heavy laid (by kernel_rfl) (by kernel_rfl) (B:=4) (by kernel_rfl) bool4 (by kernel_rfl)
  (fun ds hd=>by
   match ds,hd with
   | [_,_],_=>rfl) hval hW hwt
theorem said:Rows.TopReadySaid :=
 OpenClaim.holds_of_wide 8 Go.Proofs.Try.f8 rfl rfl rfl rfl rfl rfl rfl ⟨rfl,rfl,rfl,rfl,rfl⟩ rfl rfl rfl rfl rfl (by kernel_rfl) (show Go.Proofs.Try.prog.funcs[8]?=some Go.Proofs.Try.f8 from by kernel_rfl) (by kernel_rfl)
  (of_decide_eq_true (by kernel_rfl)) (by unfold Func.isWrapper;first | (rw [if_pos (by decide +kernel)];kernel_rfl) | (rw [if_neg (by decide +kernel)];exact ⟨rfl,rfl⟩))
  (fun os started H enc _=>lifted os started H enc)
end Go.Tt
namespace Go.Proofs.Ytdhdklojcppfcaa
theorem topReady_holds:Rows.TopReadySaid:=Go.Tt.said
end Go.Proofs.Ytdhdklojcppfcaa
