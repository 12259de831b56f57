/-
  OrderCases returns true for every input, and leaves its arguments as they were.
-/
import Derived.Test.YtdpfmofgibmifaaOrdH2
import Derived.Test.YtdpfmofgibmifaaOrdR1
import Derived.Test.YtdpfmofgibmifaaSH
import Derived.Test.YtdpfmofgibmifaaRows
import Derived.ProofKit
set_option linter.all false
set_option maxRecDepth 100000
namespace Go.Ord
open Go Go.Sx Go.Proofs.Ytdpfmofgibmifaa
theorem own:ownKnob Go.Proofs.Try.prog.godebug=none:=by kernel_rfl
theorem laid:laidOutB Go.Proofs.Try.prog=true:=by kernel_rfl
theorem heavy:T2.heavy Go.Proofs.Try.prog=true:=by kernel_rfl
theorem bool4:Go.Proofs.Try.prog.underlying 4=some .bool:=by kernel_rfl
theorem h7:Sx.Good Go.Proofs.Try.prog 7 k7:=con_of mixed (show Go.Proofs.Try.prog.funcs[7]?=some Go.Proofs.Try.f7 from by kernel_rfl) (by kernel_rfl) fun x hp=>⟨cx7,withHld_ok (withNlp_ok (mkCx_ok tabs_ok2 ⟨h13,h14,h15,h25,h30,h17,h19,trivial⟩ trivial trivial)),by kernel_rfl,by kernel_rfl,by rw [e7];exact v7 x hp⟩
abbrev nl:Value:=.slice none 0 0
theorem lifted (os:Os) (started:os.Started) (H:Type) (enc:TypeId × Value→H) :
  ReturnsInHanded {} Go.Proofs.Try.checked os 7 .any (Rows.orderCasesSpec.pre6 enc Go.Proofs.Try.prog Go.Proofs.Try.f7 Rows.orderCasesRow.domain false) (Rows.orderCasesSpec.post enc Go.Proofs.Try.prog Go.Proofs.Try.f7 false true false false):=by
 refine returnsInHanded_of_change_sized (C:=Go.Proofs.Try.checked) own started (by kernel_rfl) (show Go.Proofs.Try.prog.funcs[7]?=some Go.Proofs.Try.f7 from by kernel_rfl)
  (ChangeSpec.witness6 (enc:=enc) (C:=Go.Proofs.Try.checked) false ⟨#[],#[.agg #[nl,nl]],[]⟩ 8 (by kernel_rfl) (by kernel_rfl) (by kernel_rfl) (by kernel_rfl)) ?_
 intro W base args ds gs before hval hW _ hwt _
 exact row_calls (args:=k7.args) (pre:=law10u_OrderCases_p) (val:=law10u_OrderCases) h7 (fun _ hf=>trivial) (fun _=>rfl) tabs_ok2 heavy laid (by kernel_rfl) (by kernel_rfl) (B:=4) (by kernel_rfl) bool4 (by kernel_rfl)
  (fun ds hd=>by
   match ds,hd with
   | [_],_=>rfl) hval hW hwt
theorem said:Rows.OrderCasesSaid :=
 OpenClaim.holds_of_wide 7 Go.Proofs.Try.f7 rfl rfl rfl rfl rfl rfl rfl ⟨rfl,rfl,rfl,rfl,rfl⟩ rfl rfl rfl rfl rfl (by kernel_rfl) (show Go.Proofs.Try.prog.funcs[7]?=some Go.Proofs.Try.f7 from by kernel_rfl) (by kernel_rfl)
  (of_decide_eq_true (by kernel_rfl)) (by unfold Func.isWrapper;first | (rw [if_pos (by decide +kernel)];kernel_rfl) | (rw [if_neg (by decide +kernel)];exact ⟨rfl,rfl⟩))
  (fun os started H enc _=>lifted os started H enc)
end Go.Ord
namespace Go.Proofs.Ytdpfmofgibmifaa
theorem orderCases_holds:Rows.OrderCasesSaid:=Go.Ord.said
end Go.Proofs.Ytdpfmofgibmifaa
