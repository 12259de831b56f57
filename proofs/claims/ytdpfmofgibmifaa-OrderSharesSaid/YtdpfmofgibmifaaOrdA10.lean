/-
  OrderShares returns true for every input, and leaves its arguments as they were.
-/
import Derived.Test.YtdpfmofgibmifaaOrdH2
import Derived.Test.YtdpfmofgibmifaaOrdQ7
import Derived.Test.YtdpfmofgibmifaaSH
import Derived.Test.YtdpfmofgibmifaaRows
import Derived.ProofKit
set_option linter.all false
set_option maxRecDepth 100000
namespace Go.OrdS
open Go Go.Sx Go.Ord Go.Proofs.Ytdpfmofgibmifaa
theorem own:ownKnob Go.Proofs.Try.prog.godebug=none:=by kernel_rfl
theorem laid:laidOutB Go.Proofs.Try.prog=true:=by kernel_rfl
theorem heavy:T4.heavy Go.Proofs.Try.prog=true:=by kernel_rfl
theorem bool4:Go.Proofs.Try.prog.underlying 4=some .bool:=by kernel_rfl
theorem h52:Sx.Good Go.Proofs.Try.prog 52 k52:=con_of mixed (show Go.Proofs.Try.prog.funcs[52]?=some Go.Proofs.Try.f52 from by kernel_rfl) (by kernel_rfl) fun x hp=>⟨cx52,mkCx_ok zeD trivial trivial trivial,by kernel_rfl,by kernel_rfl,by rw [e52];exact v52 x hp⟩
theorem h51:Sx.Good Go.Proofs.Try.prog 51 k51:=con_of mixed (show Go.Proofs.Try.prog.funcs[51]?=some Go.Proofs.Try.f51 from by kernel_rfl) (by kernel_rfl) fun x hp=>⟨cx51,mkCx_ok zeD ⟨h44,trivial⟩ trivial trivial,by kernel_rfl,by kernel_rfl,by rw [e51];exact v51 x hp⟩
theorem h27:Sx.GoodN Go.Proofs.Try.prog 27 k27:=ncon_of mixed (show Go.Proofs.Try.prog.funcs[27]?=some Go.Proofs.Try.f27 from by kernel_rfl) (by kernel_rfl) fun x hp=>⟨cx27,withR_ok (withAg_ok (zbH (withNlp_ok (mkCx_ok zeD ⟨h48,trivial⟩ trivial trivial)))),by kernel_rfl,by kernel_rfl,by rw [e27];exact v27 x hp⟩
theorem h31:Sx.GoodN Go.Proofs.Try.prog 31 k31:=ncon_of mixed (show Go.Proofs.Try.prog.funcs[31]?=some Go.Proofs.Try.f31 from by kernel_rfl) (by kernel_rfl) fun x hp=>⟨cx31,zbH (mkCxN_ok zeD trivial trivial trivial ⟨h27,trivial⟩),by kernel_rfl,by kernel_rfl,by rw [e31];exact v31 x hp⟩
theorem h22:Sx.Good Go.Proofs.Try.prog 22 k22:=con_of mixed (show Go.Proofs.Try.prog.funcs[22]?=some Go.Proofs.Try.f22 from by kernel_rfl) (by kernel_rfl) fun x hp=>⟨cx22,withAg_ok (zbH (mkCxN_ok zeD ⟨h25,h28,h51,h52,trivial⟩ trivial trivial ⟨h31,trivial⟩)),by kernel_rfl,by kernel_rfl,by rw [e22];exact v22 x hp⟩
theorem h4:Sx.Good Go.Proofs.Try.prog 4 k4:=con_of mixed (show Go.Proofs.Try.prog.funcs[4]?=some Go.Proofs.Try.f4 from by kernel_rfl) (by kernel_rfl) fun x hp=>⟨cx4,mkCx_ok zeD ⟨h13,h14,h21,h22,h23,trivial⟩ trivial trivial,by kernel_rfl,by kernel_rfl,by rw [e4];exact v4 x hp⟩
abbrev nl:Value:=.slice none 0 0
theorem lifted (os:Os) (started:os.Started) (H:Type) (enc:TypeId × Value->H) :
  ReturnsInHanded {} Go.Proofs.Try.checked os 4 .any (Rows.orderSharesSpec.pre6 enc Go.Proofs.Try.prog Go.Proofs.Try.f4 Rows.orderSharesRow.domain false) (Rows.orderSharesSpec.post enc Go.Proofs.Try.prog Go.Proofs.Try.f4 false true false false):=by
 refine returnsInHanded_of_change_sized (C:=Go.Proofs.Try.checked) own started (by kernel_rfl) (show Go.Proofs.Try.prog.funcs[4]?=some Go.Proofs.Try.f4 from by kernel_rfl)
  (ChangeSpec.witness6 (enc:=enc) (C:=Go.Proofs.Try.checked) false ⟨#[],#[.agg #[nl,nl]],[]⟩ 8 (by kernel_rfl) (by kernel_rfl) (by kernel_rfl) (by kernel_rfl)) ?_
 intro W base args ds gs before hval hW _ hwt _
 exact row_calls (args:=k4.args) (pre:=zdy) (val:=zcb) h4 (fun _ hf=>trivial) (fun _=>rfl) zeD heavy laid (by kernel_rfl) (by kernel_rfl) (B:=4) (by kernel_rfl) bool4 (by kernel_rfl)
  (fun ds hd=>by
   match ds,hd with
   | [_],_=>rfl) hval hW hwt
theorem said:Rows.OrderSharesSaid :=
 OpenClaim.holds_of_wide 4 Go.Proofs.Try.f4 rfl rfl rfl rfl rfl rfl rfl ⟨rfl,rfl,rfl,rfl,rfl⟩ rfl rfl rfl rfl rfl (by kernel_rfl) (show Go.Proofs.Try.prog.funcs[4]?=some Go.Proofs.Try.f4 from by kernel_rfl) (by kernel_rfl)
  (of_decide_eq_true (by kernel_rfl)) (by unfold Func.isWrapper;first | (rw [if_pos (by decide +kernel)];kernel_rfl) | (rw [if_neg (by decide +kernel)];exact ⟨rfl,rfl⟩))
  (fun os started H enc _=>lifted os started H enc)
end Go.OrdS
namespace Go.Proofs.Ytdpfmofgibmifaa
theorem orderShares_holds:Rows.OrderSharesSaid:=Go.OrdS.said
end Go.Proofs.Ytdpfmofgibmifaa
