/-
  OrderBest returns true for every input, and leaves its arguments as they were.
-/
import Derived.Test.YtdpfmofgibmifaaOrdH2
import Derived.Test.YtdpfmofgibmifaaOrdQ3
import Derived.Test.YtdpfmofgibmifaaSH
import Derived.Test.YtdpfmofgibmifaaRows
import Derived.ProofKit
set_option linter.all false
set_option maxRecDepth 100000
namespace Go.Ord
open Go Go.Sx Go.Proofs.Ytdpfmofgibmifaa
theorem own:ownKnob Go.Proofs.Try.prog.godebug=none:=by kernel_rfl
theorem laid:laidOutB Go.Proofs.Try.prog=true:=by kernel_rfl
theorem heavy:T2.heavy Go.Proofs.Try.prog=true:=by kernel_rfl
theorem bool4:Go.Proofs.Try.prog.underlying 4=some .bool:=by kernel_rfl
theorem h34:Sx.Good Go.Proofs.Try.prog 34 k34:=con_of mixed (show Go.Proofs.Try.prog.funcs[34]?=some Go.Proofs.Try.f34 from by kernel_rfl) (by kernel_rfl) fun x hp=>⟨cx34,withHld_ok (withNlp_ok (mkCx_ok tabs_ok2 ⟨h15,trivial⟩ trivial trivial)),by kernel_rfl,by kernel_rfl,by rw [e34];exact v34 x hp⟩
theorem h10:Sx.Good Go.Proofs.Try.prog 10 k10:=con_of mixed (show Go.Proofs.Try.prog.funcs[10]?=some Go.Proofs.Try.f10 from by kernel_rfl) (by kernel_rfl) fun x hp=>⟨cx10,mkCx_ok tabs_ok2 ⟨h13,h25,h14,h19,h34,trivial⟩ trivial trivial,by kernel_rfl,by kernel_rfl,by rw [e10];exact v10 x hp⟩
abbrev nl:Value:=.slice none 0 0
theorem lifted (os:Os) (started:os.Started) (H:Type) (enc:TypeId × Value→H) :
  ReturnsInHanded {} Go.Proofs.Try.checked os 10 .any (Rows.orderBestSpec.pre6 enc Go.Proofs.Try.prog Go.Proofs.Try.f10 Rows.orderBestRow.domain false) (Rows.orderBestSpec.post enc Go.Proofs.Try.prog Go.Proofs.Try.f10 false true false false):=by
 refine returnsInHanded_of_change_sized (C:=Go.Proofs.Try.checked) own started (by kernel_rfl) (show Go.Proofs.Try.prog.funcs[10]?=some Go.Proofs.Try.f10 from by kernel_rfl)
  (ChangeSpec.witness6 (enc:=enc) (C:=Go.Proofs.Try.checked) false ⟨#[],#[.agg #[nl,nl],.int .u8 0],[]⟩ 8 (by kernel_rfl) (by kernel_rfl) (by kernel_rfl) (by kernel_rfl)) ?_
 intro W base args ds gs before hval hW _ hwt _
 exact row_calls (args:=k10.args) (pre:=law10u_OrderBest_p) (val:=law10u_OrderBest) h10 (fun _ hf=>⟨hf.2.1,Int.lt_of_le_of_lt hf.2.2 (by decide)⟩) (fun _=>rfl) tabs_ok2 heavy laid (by kernel_rfl) (by kernel_rfl) (B:=4) (by kernel_rfl) bool4 (by kernel_rfl)
  (fun ds hd=>by
   match ds,hd with
   | [_,_],_=>rfl) hval hW hwt
theorem said:Rows.OrderBestSaid :=
 OpenClaim.holds_of_wide 10 Go.Proofs.Try.f10 rfl rfl rfl rfl rfl rfl rfl ⟨rfl,rfl,rfl,rfl,rfl⟩ rfl rfl rfl rfl rfl (by kernel_rfl) (show Go.Proofs.Try.prog.funcs[10]?=some Go.Proofs.Try.f10 from by kernel_rfl) (by kernel_rfl)
  (of_decide_eq_true (by kernel_rfl)) (by unfold Func.isWrapper;first | (rw [if_pos (by decide +kernel)];kernel_rfl) | (rw [if_neg (by decide +kernel)];exact ⟨rfl,rfl⟩))
  (fun os started H enc _=>lifted os started H enc)
end Go.Ord
namespace Go.Proofs.Ytdpfmofgibmifaa
theorem orderBest_holds:Rows.OrderBestSaid:=Go.Ord.said
end Go.Proofs.Ytdpfmofgibmifaa
