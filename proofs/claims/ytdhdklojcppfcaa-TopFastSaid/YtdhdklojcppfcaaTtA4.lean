/-
  TopFast returns true for every input, and leaves its arguments as they were.
-/
import Derived.Test.YtdhdklojcppfcaaTtRH
import Derived.Test.YtdhdklojcppfcaaTtZH
import Derived.Test.YtdhdklojcppfcaaTtQ1
import Derived.Test.YtdhdklojcppfcaaSH
import Derived.Test.YtdhdklojcppfcaaRows
import Derived.ProofKit
set_option linter.all false
set_option maxRecDepth 100000
namespace Go.Tt
open Go Go.Sx Go.Fade Go.Proofs.Ytdhdklojcppfcaa
theorem own:ownKnob Go.Proofs.Try.prog.godebug=none:=by kernel_rfl
theorem laid:laidOutB Go.Proofs.Try.prog=true:=by kernel_rfl
theorem heavy:TQ.heavy Go.Proofs.Try.prog=true:=by kernel_rfl
theorem bool4:Go.Proofs.Try.prog.underlying 4=some .bool:=by kernel_rfl
theorem h28:Sx.Good Go.Proofs.Try.prog 28 k28:=con_of mixed (show Go.Proofs.Try.prog.funcs[28]?=some Go.Proofs.Try.f28 from by kernel_rfl) (by kernel_rfl) fun x hp=>⟨cx28,mkCx_ok zjk ⟨h29,h22,trivial⟩ trivial trivial,by kernel_rfl,by kernel_rfl,by rw [e28];exact v28 x hp⟩
theorem h5:Sx.Good Go.Proofs.Try.prog 5 k5:=con_of mixed (show Go.Proofs.Try.prog.funcs[5]?=some Go.Proofs.Try.f5 from by kernel_rfl) (by kernel_rfl) fun x hp=>⟨cx5,mkCx_ok zjk ⟨h27,h28,h29,h26,h30,h31,h32,h33,h34,h35,trivial⟩ trivial trivial,by kernel_rfl,by kernel_rfl,by rw [e5];exact v5 x hp⟩
abbrev iv (n:Int):Value:=.int .i64 n
abbrev nl:Value:=.slice none 0 0
theorem lifted (os:Os) (started:os.Started) (H:Type) (enc:TypeId × Value->H) :
  ReturnsInHanded {} Go.Proofs.Try.checked os 5 .any (Rows.topFastSpec.pre6 enc Go.Proofs.Try.prog Go.Proofs.Try.f5 Rows.topFastRow.domain false) (Rows.topFastSpec.post enc Go.Proofs.Try.prog Go.Proofs.Try.f5 false true false false):=by
 refine returnsInHanded_of_change_sized (C:=Go.Proofs.Try.checked) own started (by kernel_rfl) (show Go.Proofs.Try.prog.funcs[5]?=some Go.Proofs.Try.f5 from by kernel_rfl)
  (ChangeSpec.witness6 (enc:=enc) (C:=Go.Proofs.Try.checked) false ⟨#[],#[.agg #[nl,nl,iv 0,nl],nl,.int .u8 0],[]⟩ 8 (by kernel_rfl) (by kernel_rfl) (by kernel_rfl) (by kernel_rfl)) ?_
 intro W base args ds gs before hval hW _ hwt _
 exact znJ (args:=k5.args) (pre:=zfC) (val:=zbb) h5 (fun _ hf=>⟨⟨⟨hf.1.1.1,hf.1.2.1.1,hf.1.2.2.2.1⟩,fun b hb=>hf.2.1.2 b hb⟩,hf.2.2⟩) (fun _=>rfl) zjk heavy laid (by kernel_rfl) (by kernel_rfl) (B:=4) (by kernel_rfl) bool4 (by kernel_rfl)
  (fun ds hd=>by
   match ds,hd with
   | [_,_,_],_=>rfl) hval hW hwt
theorem said:Rows.TopFastSaid :=
 OpenClaim.holds_of_wide 5 Go.Proofs.Try.f5 rfl rfl rfl rfl rfl rfl rfl ⟨rfl,rfl,rfl,rfl,rfl⟩ rfl rfl rfl rfl rfl (by kernel_rfl) (show Go.Proofs.Try.prog.funcs[5]?=some Go.Proofs.Try.f5 from by kernel_rfl) (by kernel_rfl)
  (of_decide_eq_true (by kernel_rfl)) (by unfold Func.isWrapper;first | (rw [if_pos (by decide +kernel)];kernel_rfl) | (rw [if_neg (by decide +kernel)];exact ⟨rfl,rfl⟩))
  (fun os started H enc _=>lifted os started H enc)
end Go.Tt
namespace Go.Proofs.Ytdhdklojcppfcaa
theorem topFast_holds:Rows.TopFastSaid:=Go.Tt.said
end Go.Proofs.Ytdhdklojcppfcaa
