/-
  TopBlack returns true for every input, and leaves its arguments as they were.
-/
import Derived.Test.YtdhdklojcppfcaaTtKH
import Derived.Test.YtdhdklojcppfcaaSH
import Derived.Test.YtdhdklojcppfcaaRows
import Derived.ProofKit
set_option linter.all false
set_option maxRecDepth 100000
namespace Go.Tt
open Go Go.Sx Go.Proofs.Ytdhdklojcppfcaa
theorem own:ownKnob Go.Proofs.Try.prog.godebug=none:=by kernel_rfl
theorem laid:laidOutB Go.Proofs.Try.prog=true:=by kernel_rfl
theorem heavy:TK.heavy Go.Proofs.Try.prog=true:=by kernel_rfl
theorem bool4:Go.Proofs.Try.prog.underlying 4=some .bool:=by kernel_rfl
theorem h12:Sx.Good Go.Proofs.Try.prog 12 k12:=con_of mixed (show Go.Proofs.Try.prog.funcs[12]?=some Go.Proofs.Try.f12 from by kernel_rfl) (by kernel_rfl) fun x hp=>⟨cx12,mkCx_ok zai ⟨h14,h15,trivial⟩ trivial trivial,by kernel_rfl,by kernel_rfl,by rw [e12];exact v12 x hp⟩
theorem h16:Sx.Good Go.Proofs.Try.prog 16 k16:=con_of mixed (show Go.Proofs.Try.prog.funcs[16]?=some Go.Proofs.Try.f16 from by kernel_rfl) (by kernel_rfl) fun x hp=>⟨cx16,mkCx_ok zai trivial trivial trivial,by kernel_rfl,by kernel_rfl,by rw [e16];exact v16 x hp⟩
theorem h3:Sx.Good Go.Proofs.Try.prog 3 k3:=con_of mixed (show Go.Proofs.Try.prog.funcs[3]?=some Go.Proofs.Try.f3 from by kernel_rfl) (by kernel_rfl) fun x hp=>⟨cx3,mkCx_ok zai ⟨h9,h10,h11,h12,h13,h14,h15,h16,h17,h18,h19,trivial⟩ trivial trivial,by kernel_rfl,by kernel_rfl,by rw [e3];exact v3 x hp⟩
abbrev nl:Value:=.slice none 0 0
theorem lifted (os:Os) (started:os.Started) (H:Type) (enc:TypeId × Value->H) :
  ReturnsInHanded {} Go.Proofs.Try.checked os 3 .any (Rows.topBlackSpec.pre6 enc Go.Proofs.Try.prog Go.Proofs.Try.f3 Rows.topBlackRow.domain false) (Rows.topBlackSpec.post enc Go.Proofs.Try.prog Go.Proofs.Try.f3 false true false false):=by
 refine returnsInHanded_of_change_sized (C:=Go.Proofs.Try.checked) own started (by kernel_rfl) (show Go.Proofs.Try.prog.funcs[3]?=some Go.Proofs.Try.f3 from by kernel_rfl)
  (ChangeSpec.witness6 (enc:=enc) (C:=Go.Proofs.Try.checked) false ⟨#[],#[nl,nl,nl,.int .u8 0,nl],[]⟩ 8 (by kernel_rfl) (by kernel_rfl) (by kernel_rfl) (by kernel_rfl)) ?_
 intro W base args ds gs before hval hW _ hwt _
 exact zlj (args:=k3.args) (pre:=zez) (val:=zbh) h3 (fun _ hf=>⟨⟨hf.1.1,hf.2.1.1⟩,hf.2.2.2.1,fun b hb=>hf.2.2.2.2.2 b hb⟩) (fun _=>rfl) zai heavy laid (by kernel_rfl) (by kernel_rfl) (B:=4) (by kernel_rfl) bool4 (by kernel_rfl)
  (fun ds hd=>by
   match ds,hd with
   | [_,_,_,_,_],_=>rfl) hval hW hwt
theorem said:Rows.TopBlackSaid :=
 OpenClaim.holds_of_wide 3 Go.Proofs.Try.f3 rfl rfl rfl rfl rfl rfl rfl ⟨rfl,rfl,rfl,rfl,rfl⟩ rfl rfl rfl rfl rfl (by kernel_rfl) (show Go.Proofs.Try.prog.funcs[3]?=some Go.Proofs.Try.f3 from by kernel_rfl) (by kernel_rfl)
  (of_decide_eq_true (by kernel_rfl)) (by unfold Func.isWrapper;first | (rw [if_pos (by decide +kernel)];kernel_rfl) | (rw [if_neg (by decide +kernel)];exact ⟨rfl,rfl⟩))
  (fun os started H enc _=>lifted os started H enc)
end Go.Tt
namespace Go.Proofs.Ytdhdklojcppfcaa
theorem topBlack_holds:Rows.TopBlackSaid:=Go.Tt.said
end Go.Proofs.Ytdhdklojcppfcaa
