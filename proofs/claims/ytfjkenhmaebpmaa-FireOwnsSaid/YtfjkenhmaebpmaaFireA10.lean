/-
  FireOwns returns true for every input, and leaves its arguments as they were.
-/
import Derived.Test.YtfjkenhmaebpmaaFireP25
import Derived.Test.YtfjkenhmaebpmaaSH
import Derived.Test.YtfjkenhmaebpmaaRows
import Derived.ProofKit
set_option linter.all false
set_option maxRecDepth 100000
namespace Go.FireN
open Go Go.Sx Go.Proofs.Ytfjkenhmaebpmaa Go.Fire
theorem own:ownKnob Go.Proofs.Try.prog.godebug=none:=by kernel_rfl
theorem laid:laidOutB Go.Proofs.Try.prog=true:=by kernel_rfl
theorem heavy:T8.heavy Go.Proofs.Try.prog=true:=by kernel_rfl
theorem bool4:Go.Proofs.Try.prog.underlying 4=some .bool:=by kernel_rfl
theorem h16:Sx.GoodN Go.Proofs.Try.prog 16 k16:=ncon_of mixed (show Go.Proofs.Try.prog.funcs[16]?=some Go.Proofs.Try.f16 from by kernel_rfl) (by kernel_rfl) fun x hp=>⟨cx16,mkCx_ok tabs_ok8 ⟨h48,h49,trivial⟩ trivial trivial,by kernel_rfl,by kernel_rfl,by rw [e16];exact v16 x hp⟩
theorem h23:Sx.GoodN Go.Proofs.Try.prog 23 k23:=ncon_of mixed (show Go.Proofs.Try.prog.funcs[23]?=some Go.Proofs.Try.f23 from by kernel_rfl) (by kernel_rfl) fun x hp=>⟨(cx23 x),withFrc_ok (mkCx_ok tabs_ok8 ⟨h48,h62,trivial⟩ ⟨h63,trivial⟩ trivial),by kernel_rfl,by kernel_rfl,by rw [e23];exact v23 x hp⟩
theorem q21u_99u_54:Sx.GoodQ Go.Proofs.Try.prog i21u_99u_54:=inl_of mixed (show Go.Proofs.Try.prog.funcs[82]?=some Go.Proofs.Try.f82 from by kernel_rfl) (by kernel_rfl) (withQ_ok (withHld_ok (mkCx_ok tabs_ok8 trivial trivial trivial))) rfl rfl
theorem q21u_99:Sx.GoodQ Go.Proofs.Try.prog i21u_99:=inl_of mixed (show Go.Proofs.Try.prog.funcs[54]?=some Go.Proofs.Try.f54 from by kernel_rfl) (by kernel_rfl) (withInl_ok (mkCx_ok tabs_ok8 ⟨h80,h77,trivial⟩ trivial trivial) ⟨q21u_99u_54,trivial⟩) rfl rfl
theorem q21u_104:Sx.GoodQ Go.Proofs.Try.prog i21u_104:=inl_of mixed (show Go.Proofs.Try.prog.funcs[56]?=some Go.Proofs.Try.f56 from by kernel_rfl) (by kernel_rfl) (withQ_ok (withHld_ok (mkCx_ok tabs_ok8 trivial trivial trivial))) rfl rfl
theorem q21u_145u_54:Sx.GoodQ Go.Proofs.Try.prog i21u_145u_54:=inl_of mixed (show Go.Proofs.Try.prog.funcs[82]?=some Go.Proofs.Try.f82 from by kernel_rfl) (by kernel_rfl) (withQ_ok (withHld_ok (mkCx_ok tabs_ok8 trivial trivial trivial))) rfl rfl
theorem q21u_145:Sx.GoodQ Go.Proofs.Try.prog i21u_145:=inl_of mixed (show Go.Proofs.Try.prog.funcs[54]?=some Go.Proofs.Try.f54 from by kernel_rfl) (by kernel_rfl) (withInl_ok (mkCx_ok tabs_ok8 ⟨h80,h77,trivial⟩ trivial trivial) ⟨q21u_145u_54,trivial⟩) rfl rfl
theorem h21:Sx.GoodN Go.Proofs.Try.prog 21 k21:=ncon_of mixed (show Go.Proofs.Try.prog.funcs[21]?=some Go.Proofs.Try.f21 from by kernel_rfl) (by kernel_rfl) fun x hp=>⟨cx21,withInl_ok (withQ_ok (withHld_ok (withNlp_ok (mkCxN_ok tabs_ok8 ⟨h40,h52,h41,h53,h55,h58,trivial⟩ trivial trivial ⟨h57,trivial⟩)))) ⟨q21u_99,q21u_104,q21u_145,trivial⟩,by kernel_rfl,by kernel_rfl,by rw [e21];exact v21 x hp⟩
theorem h12:Sx.Good Go.Proofs.Try.prog 12 k12:=con_of mixed (show Go.Proofs.Try.prog.funcs[12]?=some Go.Proofs.Try.f12 from by kernel_rfl) (by kernel_rfl) fun x hp=>⟨cx12,withR_ok (mkCxN_ok tabs_ok8 ⟨h13,h18,h20,trivial⟩ trivial trivial ⟨h16,h23,h21,trivial⟩),by kernel_rfl,by kernel_rfl,by rw [e12];exact v12 x hp⟩
abbrev iv (n:Int):Value:=.int .i64 n
abbrev nl:Value:=.slice none 0 0
theorem lifted (os:Os) (started:os.Started) (H:Type) (enc:TypeId × Value→H) :
  ReturnsInHanded {} Go.Proofs.Try.checked os 12 .any (Rows.fireOwnsSpec.pre6 enc Go.Proofs.Try.prog Go.Proofs.Try.f12 Rows.fireOwnsRow.domain false) (Rows.fireOwnsSpec.post enc Go.Proofs.Try.prog Go.Proofs.Try.f12 false true false false):=by
 refine returnsInHanded_of_change_sized (C:=Go.Proofs.Try.checked) own started (by kernel_rfl) (show Go.Proofs.Try.prog.funcs[12]?=some Go.Proofs.Try.f12 from by kernel_rfl)
  (ChangeSpec.witness6 (enc:=enc) (C:=Go.Proofs.Try.checked) false ⟨#[],#[.agg #[nl,iv 0,iv 0,iv 0],nl,nl,nl],[]⟩ 8 (by kernel_rfl) (by kernel_rfl) (by kernel_rfl) (by kernel_rfl)) ?_
 intro W base args ds gs before hval hW _ hwt _
 exact row_calls (args:=k12.args) (pre:=law03u_FireOwns_p) (val:=law03u_FireOwns) h12 (fun _ hf=>trivial) (fun _=>rfl) tabs_ok8 heavy laid (by kernel_rfl) (by kernel_rfl) (B:=4) (by kernel_rfl) bool4 (by kernel_rfl)
  (fun ds hd=>by
   match ds,hd with
   | [_,_,_,_],_=>rfl) hval hW hwt
theorem said:Rows.FireOwnsSaid :=
 OpenClaim.holds_of_wide 12 Go.Proofs.Try.f12 rfl rfl rfl rfl rfl rfl rfl ⟨rfl,rfl,rfl,rfl,rfl⟩ rfl rfl rfl rfl rfl (by kernel_rfl) (show Go.Proofs.Try.prog.funcs[12]?=some Go.Proofs.Try.f12 from by kernel_rfl) (by kernel_rfl)
  (of_decide_eq_true (by kernel_rfl)) (by unfold Func.isWrapper;first | (rw [if_pos (by decide +kernel)];kernel_rfl) | (rw [if_neg (by decide +kernel)];exact ⟨rfl,rfl⟩))
  (fun os started H enc _=>lifted os started H enc)
end Go.FireN
namespace Go.Proofs.Ytfjkenhmaebpmaa
theorem fireOwns_holds:Rows.FireOwnsSaid:=Go.FireN.said
end Go.Proofs.Ytfjkenhmaebpmaa
