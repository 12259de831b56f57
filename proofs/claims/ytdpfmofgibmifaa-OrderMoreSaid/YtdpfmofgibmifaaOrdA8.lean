/-
  OrderMore returns true for every input, and leaves its arguments as they were.
-/
import Derived.Test.YtdpfmofgibmifaaOrdH2
import Derived.Test.YtdpfmofgibmifaaOrdQ5
import Derived.Test.YtdpfmofgibmifaaSH
import Derived.Test.YtdpfmofgibmifaaRows
import Derived.ProofKit
set_option linter.all false
set_option maxRecDepth 100000
namespace Go.Ord
open Go Go.Sx Go.Proofs.Ytdpfmofgibmifaa
theorem own:ownKnob Go.Proofs.Try.prog.godebug=none:=by kernel_rfl
theorem laid:laidOutB Go.Proofs.Try.prog=true:=by kernel_rfl
theorem heavy:T2.heavy Go.Proofs.Try.prog=true:=by kernel_rfl
theorem bool4:Go.Proofs.Try.prog.underlying 4=some .bool:=by kernel_rfl
theorem h11:Sx.Good Go.Proofs.Try.prog 11 k11:=con_of mixed (show Go.Proofs.Try.prog.funcs[11]?=some Go.Proofs.Try.f11 from by kernel_rfl) (by kernel_rfl) fun x hp=>⟨cx11,withHld_ok (withNlp_ok (mkCx_ok tabs_ok2 ⟨h13,h25,h14,h15,h17,h19,trivial⟩ trivial trivial)),by kernel_rfl,by kernel_rfl,by rw [e11];exact v11 x hp⟩
abbrev iv (n:Int):Value:=.int .i64 n
abbrev nl:Value:=.slice none 0 0
theorem lifted (os:Os) (started:os.Started) (H:Type) (enc:TypeId × Value→H) :
  ReturnsInHanded {} Go.Proofs.Try.checked os 11 .any (Rows.orderMoreSpec.pre6 enc Go.Proofs.Try.prog Go.Proofs.Try.f11 Rows.orderMoreRow.domain false) (Rows.orderMoreSpec.post enc Go.Proofs.Try.prog Go.Proofs.Try.f11 false true false false):=by
 refine returnsInHanded_of_change_sized (C:=Go.Proofs.Try.checked) own started (by kernel_rfl) (show Go.Proofs.Try.prog.funcs[11]?=some Go.Proofs.Try.f11 from by kernel_rfl)
  (ChangeSpec.witness6 (enc:=enc) (C:=Go.Proofs.Try.checked) false ⟨#[],#[.agg #[nl,nl],.agg #[iv 0,iv 0,iv 0,iv 0,iv 0],.int .u8 0,.int .u8 0],[]⟩ 8 (by kernel_rfl) (by kernel_rfl) (by kernel_rfl) (by kernel_rfl)) ?_
 intro W base args ds gs before hval hW _ hwt _
 exact row_calls (args:=k11.args) (pre:=law10u_OrderMore_p) (val:=law10u_OrderMore) h11 (fun _ hf=>⟨⟨hf.2.2.1.1,Int.lt_of_le_of_lt hf.2.2.1.2 (by decide)⟩,hf.2.2.2.1,Int.lt_of_le_of_lt hf.2.2.2.2 (by decide)⟩) (fun _=>rfl) tabs_ok2 heavy laid (by kernel_rfl) (by kernel_rfl) (B:=4) (by kernel_rfl) bool4 (by kernel_rfl)
  (fun ds hd=>by
   match ds,hd with
   | [_,_,_,_],_=>rfl) hval hW hwt
theorem said:Rows.OrderMoreSaid :=
 OpenClaim.holds_of_wide 11 Go.Proofs.Try.f11 rfl rfl rfl rfl rfl rfl rfl ⟨rfl,rfl,rfl,rfl,rfl⟩ rfl rfl rfl rfl rfl (by kernel_rfl) (show Go.Proofs.Try.prog.funcs[11]?=some Go.Proofs.Try.f11 from by kernel_rfl) (by kernel_rfl)
  (of_decide_eq_true (by kernel_rfl)) (by unfold Func.isWrapper;first | (rw [if_pos (by decide +kernel)];kernel_rfl) | (rw [if_neg (by decide +kernel)];exact ⟨rfl,rfl⟩))
  (fun os started H enc _=>lifted os started H enc)
end Go.Ord
namespace Go.Proofs.Ytdpfmofgibmifaa
theorem orderMore_holds:Rows.OrderMoreSaid:=Go.Ord.said
end Go.Proofs.Ytdpfmofgibmifaa
