/-
  OrderNames returns true for every input, and leaves its arguments as they were.
-/
import Derived.Test.YtdpfmofgibmifaaOrdH1
import Derived.Test.YtdpfmofgibmifaaSH
import Derived.Test.YtdpfmofgibmifaaRows
import Derived.ProofKit
set_option linter.all false
set_option maxRecDepth 100000
namespace Go.Ord
open Go Go.Sx Go.Proofs.Ytdpfmofgibmifaa
theorem own:ownKnob Go.Proofs.Try.prog.godebug=none:=by kernel_rfl
theorem laid:laidOutB Go.Proofs.Try.prog=true:=by kernel_rfl
theorem heavy:T.heavy Go.Proofs.Try.prog=true:=by kernel_rfl
theorem bool4:Go.Proofs.Try.prog.underlying 4=some .bool:=by kernel_rfl
theorem h5:Sx.Good Go.Proofs.Try.prog 5 k5:=con_of mixed (show Go.Proofs.Try.prog.funcs[5]?=some Go.Proofs.Try.f5 from by kernel_rfl) (by kernel_rfl) fun x hp=>⟨cx5,mkCx_ok tabs_ok ⟨h24,h15,h17,h19,h21,h14,h23,trivial⟩ trivial trivial,by kernel_rfl,by kernel_rfl,by rw [e5];exact v5 x hp⟩
abbrev nl:Value:=.slice none 0 0
theorem lifted (os:Os) (started:os.Started) (H:Type) (enc:TypeId × Value→H) :
  ReturnsInHanded {} Go.Proofs.Try.checked os 5 .any (Rows.orderNamesSpec.pre6 enc Go.Proofs.Try.prog Go.Proofs.Try.f5 Rows.orderNamesRow.domain false) (Rows.orderNamesSpec.post enc Go.Proofs.Try.prog Go.Proofs.Try.f5 false true false false):=by
 refine returnsInHanded_of_change_sized (C:=Go.Proofs.Try.checked) own started (by kernel_rfl) (show Go.Proofs.Try.prog.funcs[5]?=some Go.Proofs.Try.f5 from by kernel_rfl)
  (ChangeSpec.witness6 (enc:=enc) (C:=Go.Proofs.Try.checked) false ⟨#[],#[],[]⟩ 8 (by kernel_rfl) (by kernel_rfl) (by kernel_rfl) (by kernel_rfl)) ?_
 intro W base args ds gs before hval hW _ hwt _
 exact row_calls (args:=k5.args) (pre:=law10u_OrderNames_p) (val:=law10u_OrderNames) h5 (fun _ hf=>trivial) (fun _=>rfl) tabs_ok heavy laid (by kernel_rfl) (by kernel_rfl) (B:=4) (by kernel_rfl) bool4 (by kernel_rfl)
  (fun ds hd=>by
   match ds,hd with
   | [],_=>rfl) hval hW hwt
theorem said:Rows.OrderNamesSaid :=
 OpenClaim.holds_of_wide 5 Go.Proofs.Try.f5 rfl rfl rfl rfl rfl rfl rfl ⟨rfl,rfl,rfl,rfl,rfl⟩ rfl rfl rfl rfl rfl (by kernel_rfl) (show Go.Proofs.Try.prog.funcs[5]?=some Go.Proofs.Try.f5 from by kernel_rfl) (by kernel_rfl)
  (of_decide_eq_true (by kernel_rfl)) (by unfold Func.isWrapper;first | (rw [if_pos (by decide +kernel)];kernel_rfl) | (rw [if_neg (by decide +kernel)];exact ⟨rfl,rfl⟩))
  (fun os started H enc _=>lifted os started H enc)
end Go.Ord
namespace Go.Proofs.Ytdpfmofgibmifaa
theorem orderNames_holds:Rows.OrderNamesSaid:=Go.Ord.said
end Go.Proofs.Ytdpfmofgibmifaa
