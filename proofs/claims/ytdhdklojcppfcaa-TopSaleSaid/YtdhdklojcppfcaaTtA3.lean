/-
  TopSale returns true for every input, and leaves its arguments as they were.
-/
import Derived.Test.YtdhdklojcppfcaaTtBH
import Derived.Test.YtdhdklojcppfcaaTtRH
import Derived.Test.YtdhdklojcppfcaaTtE2
import Derived.Test.YtdhdklojcppfcaaSH
import Derived.Test.YtdhdklojcppfcaaRows
import Derived.ProofKit
set_option linter.all false
set_option maxRecDepth 100000
namespace Go.Tt
open Go Go.Sx Go.Proofs.Ytdhdklojcppfcaa
theorem own:ownKnob Go.Proofs.Try.prog.godebug=none:=by kernel_rfl
theorem laid:laidOutB Go.Proofs.Try.prog=true:=by kernel_rfl
theorem heavy:TE.heavy Go.Proofs.Try.prog=true:=by kernel_rfl
theorem bool4:Go.Proofs.Try.prog.underlying 4=some .bool:=by kernel_rfl
theorem h40:Sx.Good Go.Proofs.Try.prog 40 k40:=con_of mixed (show Go.Proofs.Try.prog.funcs[40]?=some Go.Proofs.Try.f40 from by kernel_rfl) (by kernel_rfl) fun x hp=>⟨cx40,mkCx_ok zki ⟨h30,h41,trivial⟩ trivial trivial,by kernel_rfl,by kernel_rfl,by rw [e40];exact v40 x hp⟩
theorem h7:Sx.Good Go.Proofs.Try.prog 7 k7:=con_of mixed (show Go.Proofs.Try.prog.funcs[7]?=some Go.Proofs.Try.f7 from by kernel_rfl) (by kernel_rfl) fun x hp=>⟨cx7,zbO (zgA (mkCx_ok zki ⟨h23,h40,h22,h26,h30,h41,h39,h38,trivial⟩ trivial trivial)),by kernel_rfl,by kernel_rfl,by rw [e7];exact v7 x hp⟩
abbrev iv (n:Int):Value:=.int .i64 n
abbrev nl:Value:=.slice none 0 0
theorem lifted (os:Os) (started:os.Started) (H:Type) (enc:TypeId × Value->H) :
  ReturnsInHanded {} Go.Proofs.Try.checked os 7 .any (Rows.topSaleSpec.pre6 enc Go.Proofs.Try.prog Go.Proofs.Try.f7 Rows.topSaleRow.domain false) (Rows.topSaleSpec.post enc Go.Proofs.Try.prog Go.Proofs.Try.f7 false true false false):=by
 refine returnsInHanded_of_change_sized (C:=Go.Proofs.Try.checked) own started (by kernel_rfl) (show Go.Proofs.Try.prog.funcs[7]?=some Go.Proofs.Try.f7 from by kernel_rfl)
  (ChangeSpec.witness6 (enc:=enc) (C:=Go.Proofs.Try.checked) false ⟨#[],#[nl,nl,iv 0],[]⟩ 8 (by kernel_rfl) (by kernel_rfl) (by kernel_rfl) (by kernel_rfl)) ?_
 intro W base args ds gs before hval hW _ hwt _
 exact zoI (args:=k7.args) (pre:=zfW) (val:=zdx) h7 (fun _ hf=>trivial) (fun _=>rfl) zki heavy laid (by kernel_rfl) (by kernel_rfl) (B:=4) (by kernel_rfl) bool4 (by kernel_rfl)
  (fun ds hd=>by
   match ds,hd with
   | [_,_,_],_=>rfl) hval hW hwt
theorem said:Rows.TopSaleSaid :=
 OpenClaim.holds_of_wide 7 Go.Proofs.Try.f7 rfl rfl rfl rfl rfl rfl rfl ⟨rfl,rfl,rfl,rfl,rfl⟩ rfl rfl rfl rfl rfl (by kernel_rfl) (show Go.Proofs.Try.prog.funcs[7]?=some Go.Proofs.Try.f7 from by kernel_rfl) (by kernel_rfl)
  (of_decide_eq_true (by kernel_rfl)) (by unfold Func.isWrapper;first | (rw [if_pos (by decide +kernel)];kernel_rfl) | (rw [if_neg (by decide +kernel)];exact ⟨rfl,rfl⟩))
  (fun os started H enc _=>lifted os started H enc)
end Go.Tt
namespace Go.Proofs.Ytdhdklojcppfcaa
theorem topSale_holds:Rows.TopSaleSaid:=Go.Tt.said
end Go.Proofs.Ytdhdklojcppfcaa
