/-
  XrayOwns returns true for every input, and leaves its arguments as they were.
-/
import Derived.Test.YtkeeaadooechgaaXrH2
import Derived.Test.YtkeeaadooechgaaXrQ4
import Derived.Test.YtkeeaadooechgaaSH
import Derived.Test.YtkeeaadooechgaaRows
import Derived.ProofKit
set_option linter.all false
set_option maxRecDepth 100000
namespace Go.XrN
open Go Go.Sx Go.Xr Go.Proofs.Ytkeeaadooechgaa
theorem own:ownKnob Go.Proofs.Try.prog.godebug=none:=by kernel_rfl
theorem laid:laidOutB Go.Proofs.Try.prog=true:=by kernel_rfl
theorem heavy:T3.heavy Go.Proofs.Try.prog=true:=by kernel_rfl
theorem bool4:Go.Proofs.Try.prog.underlying 4=some .bool:=by kernel_rfl
theorem h44:Sx.GoodL Go.Proofs.Try.prog 44 k44:=lcon_rec m44 mixed (show Go.Proofs.Try.prog.funcs[44]?=some Go.Proofs.Try.f44 from by kernel_rfl) (by kernel_rfl) fun x hp own=>⟨(cx44 x),mkCx_ok tabs_ok3 ⟨h45,h43,trivial⟩ ⟨own,trivial⟩ trivial,by kernel_rfl,by kernel_rfl,by rw [e44];exact v44 x hp⟩
theorem h22:Sx.GoodN Go.Proofs.Try.prog 22 k22:=ncon_of mixed (show Go.Proofs.Try.prog.funcs[22]?=some Go.Proofs.Try.f22 from by kernel_rfl) (by kernel_rfl) fun x hp=>⟨cx22,mkCx_ok tabs_ok3 ⟨h41,h42,h43,trivial⟩ ⟨h44,trivial⟩ trivial,by kernel_rfl,by kernel_rfl,by rw [e22];exact v22 x hp⟩
theorem h11:Sx.Good Go.Proofs.Try.prog 11 k11:=con_of mixed (show Go.Proofs.Try.prog.funcs[11]?=some Go.Proofs.Try.f11 from by kernel_rfl) (by kernel_rfl) fun x hp=>⟨cx11,mkCxN_ok tabs_ok3 ⟨h13,h14,h16,h18,h20,h24,trivial⟩ trivial trivial ⟨h22,trivial⟩,by kernel_rfl,by kernel_rfl,by rw [e11];exact v11 x hp⟩
abbrev iv (n:Int):Value:=.int .i64 n
abbrev nl:Value:=.slice none 0 0
theorem lifted (os:Os) (started:os.Started) (H:Type) (enc:TypeId × Value→H) :
  ReturnsInHanded {} Go.Proofs.Try.checked os 11 .any (Rows.xrayOwnsSpec.pre6 enc Go.Proofs.Try.prog Go.Proofs.Try.f11 Rows.xrayOwnsRow.domain false) (Rows.xrayOwnsSpec.post enc Go.Proofs.Try.prog Go.Proofs.Try.f11 false true false false):=by
 refine returnsInHanded_of_change_sized (C:=Go.Proofs.Try.checked) own started (by kernel_rfl) (show Go.Proofs.Try.prog.funcs[11]?=some Go.Proofs.Try.f11 from by kernel_rfl)
  (ChangeSpec.witness6 (enc:=enc) (C:=Go.Proofs.Try.checked) false ⟨#[],#[.agg #[nl,iv 0,iv 0,iv 0],nl,nl,iv 0],[]⟩ 8 (by kernel_rfl) (by kernel_rfl) (by kernel_rfl) (by kernel_rfl)) ?_
 intro W base args ds gs before hval hW _ hwt _
 exact row_calls (args:=k11.args) (pre:=law06u_XrayOwns_p) (val:=law06u_XrayOwns) h11 (fun _ hf=>trivial) (fun _=>rfl) tabs_ok3 heavy laid (by kernel_rfl) (by kernel_rfl) (B:=4) (by kernel_rfl) bool4 (by kernel_rfl)
  (fun ds hd=>by
   match ds,hd with
   | [_,_,_,_],_=>rfl) hval hW hwt
theorem said:Rows.XrayOwnsSaid :=
 OpenClaim.holds_of_wide 11 Go.Proofs.Try.f11 rfl rfl rfl rfl rfl rfl rfl ⟨rfl,rfl,rfl,rfl,rfl⟩ rfl rfl rfl rfl rfl (by kernel_rfl) (show Go.Proofs.Try.prog.funcs[11]?=some Go.Proofs.Try.f11 from by kernel_rfl) (by kernel_rfl)
  (of_decide_eq_true (by kernel_rfl)) (by unfold Func.isWrapper;first | (rw [if_pos (by decide +kernel)];kernel_rfl) | (rw [if_neg (by decide +kernel)];exact ⟨rfl,rfl⟩))
  (fun os started H enc _=>lifted os started H enc)
end Go.XrN
namespace Go.Proofs.Ytkeeaadooechgaa
theorem xrayOwns_holds:Rows.XrayOwnsSaid:=Go.XrN.said
end Go.Proofs.Ytkeeaadooechgaa
