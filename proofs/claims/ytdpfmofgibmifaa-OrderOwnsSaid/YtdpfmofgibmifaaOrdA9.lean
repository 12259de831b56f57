/-
  OrderOwns returns true for every input, and leaves its arguments as they were.
-/
import Derived.Test.YtdpfmofgibmifaaOrdH2
import Derived.Test.YtdpfmofgibmifaaOrdQ6
import Derived.Test.YtdpfmofgibmifaaSH
import Derived.Test.YtdpfmofgibmifaaRows
import Derived.ProofKit
set_option linter.all false
set_option maxRecDepth 100000
namespace Go.OrdN
open Go Go.Sx Go.Ord Go.Proofs.Ytdpfmofgibmifaa
theorem own:ownKnob Go.Proofs.Try.prog.godebug=none:=by kernel_rfl
theorem laid:laidOutB Go.Proofs.Try.prog=true:=by kernel_rfl
theorem heavy:T3.heavy Go.Proofs.Try.prog=true:=by kernel_rfl
theorem bool4:Go.Proofs.Try.prog.underlying 4=some .bool:=by kernel_rfl
theorem q21u_19:Sx.GoodQ Go.Proofs.Try.prog i21u_19:=inl_of mixed (show Go.Proofs.Try.prog.funcs[36]?=some Go.Proofs.Try.f36 from by kernel_rfl) (by kernel_rfl) (withStl_ok (withHld_ok (withNlp_ok (mkCx_ok tabs_ok3 trivial trivial trivial)))) rfl rfl
theorem q21u_64:Sx.GoodQ Go.Proofs.Try.prog i21u_64:=inl_of mixed (show Go.Proofs.Try.prog.funcs[49]?=some Go.Proofs.Try.f49 from by kernel_rfl) (by kernel_rfl) (withStl_ok (withHld_ok (mkCxN_ok tabs_ok3 trivial ⟨h67,trivial⟩ trivial ⟨h66,trivial⟩))) rfl rfl
theorem q21u_96:Sx.GoodQ Go.Proofs.Try.prog i21u_96:=inl_of mixed (show Go.Proofs.Try.prog.funcs[49]?=some Go.Proofs.Try.f49 from by kernel_rfl) (by kernel_rfl) (withStl_ok (withHld_ok (mkCxN_ok tabs_ok3 trivial ⟨h67,trivial⟩ trivial ⟨h66,trivial⟩))) rfl rfl
theorem h21:Sx.GoodN Go.Proofs.Try.prog 21 k21:=ncon_of mixed (show Go.Proofs.Try.prog.funcs[21]?=some Go.Proofs.Try.f21 from by kernel_rfl) (by kernel_rfl) fun x hp=>⟨cx21,withInl_ok (withR_ok (withAg_ok (withAli_ok (withFgt_ok (withHld_ok (mkCx_ok tabs_ok3 ⟨h35,h91,h92,h36,h46,h49,h50,trivial⟩ trivial trivial)))))) ⟨q21u_19,q21u_64,q21u_96,trivial⟩,by kernel_rfl,by kernel_rfl,by rw [e21];exact v21 x hp⟩
theorem h12:Sx.Good Go.Proofs.Try.prog 12 k12:=con_of mixed (show Go.Proofs.Try.prog.funcs[12]?=some Go.Proofs.Try.f12 from by kernel_rfl) (by kernel_rfl) fun x hp=>⟨cx12,mkCxN_ok tabs_ok3 ⟨h13,h14,h15,h17,h19,h23,trivial⟩ trivial trivial ⟨h21,trivial⟩,by kernel_rfl,by kernel_rfl,by rw [e12];exact v12 x hp⟩
abbrev nl:Value:=.slice none 0 0
theorem lifted (os:Os) (started:os.Started) (H:Type) (enc:TypeId × Value→H) :
  ReturnsInHanded {} Go.Proofs.Try.checked os 12 .any (Rows.orderOwnsSpec.pre6 enc Go.Proofs.Try.prog Go.Proofs.Try.f12 Rows.orderOwnsRow.domain false) (Rows.orderOwnsSpec.post enc Go.Proofs.Try.prog Go.Proofs.Try.f12 false true false false):=by
 refine returnsInHanded_of_change_sized (C:=Go.Proofs.Try.checked) own started (by kernel_rfl) (show Go.Proofs.Try.prog.funcs[12]?=some Go.Proofs.Try.f12 from by kernel_rfl)
  (ChangeSpec.witness6 (enc:=enc) (C:=Go.Proofs.Try.checked) false ⟨#[],#[.agg #[nl,nl]],[]⟩ 8 (by kernel_rfl) (by kernel_rfl) (by kernel_rfl) (by kernel_rfl)) ?_
 intro W base args ds gs before hval hW _ hwt _
 exact row_calls (args:=k12.args) (pre:=law10u_OrderOwns_p) (val:=law10u_OrderOwns) h12 (fun _ hf=>trivial) (fun _=>rfl) tabs_ok3 heavy laid (by kernel_rfl) (by kernel_rfl) (B:=4) (by kernel_rfl) bool4 (by kernel_rfl)
  (fun ds hd=>by
   match ds,hd with
   | [_],_=>rfl) hval hW hwt
theorem said:Rows.OrderOwnsSaid :=
 OpenClaim.holds_of_wide 12 Go.Proofs.Try.f12 rfl rfl rfl rfl rfl rfl rfl ⟨rfl,rfl,rfl,rfl,rfl⟩ rfl rfl rfl rfl rfl (by kernel_rfl) (show Go.Proofs.Try.prog.funcs[12]?=some Go.Proofs.Try.f12 from by kernel_rfl) (by kernel_rfl)
  (of_decide_eq_true (by kernel_rfl)) (by unfold Func.isWrapper;first | (rw [if_pos (by decide +kernel)];kernel_rfl) | (rw [if_neg (by decide +kernel)];exact ⟨rfl,rfl⟩))
  (fun os started H enc _=>lifted os started H enc)
end Go.OrdN
namespace Go.Proofs.Ytdpfmofgibmifaa
theorem orderOwns_holds:Rows.OrderOwnsSaid:=Go.OrdN.said
end Go.Proofs.Ytdpfmofgibmifaa
