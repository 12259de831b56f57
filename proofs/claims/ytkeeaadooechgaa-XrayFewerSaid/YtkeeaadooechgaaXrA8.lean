/-
  XrayFewer returns true for every input, and leaves its arguments as they were.
-/
import Derived.Test.YtkeeaadooechgaaXrH2
import Derived.Test.YtkeeaadooechgaaXrQ6
import Derived.Test.YtkeeaadooechgaaSH
import Derived.Test.YtkeeaadooechgaaRows
import Derived.ProofKit
set_option linter.all false
set_option maxRecDepth 100000
namespace Go.Xr
open Go Go.Sx Go.Proofs.Ytkeeaadooechgaa
theorem own:ownKnob Go.Proofs.Try.prog.godebug=none:=by kernel_rfl
theorem laid:laidOutB Go.Proofs.Try.prog=true:=by kernel_rfl
theorem heavy:T4.heavy Go.Proofs.Try.prog=true:=by kernel_rfl
theorem bool4:Go.Proofs.Try.prog.underlying 4=some .bool:=by kernel_rfl
theorem h10:Sx.Good Go.Proofs.Try.prog 10 k10:=con_of mixed (show Go.Proofs.Try.prog.funcs[10]?=some Go.Proofs.Try.f10 from by kernel_rfl) (by kernel_rfl) fun x hp=>⟨cx10,mkCx_ok tabs_ok4 ⟨h13,h20,h22,h28,trivial⟩ trivial trivial,by kernel_rfl,by kernel_rfl,by rw [e10];exact v10 x hp⟩
abbrev iv (n:Int):Value:=.int .i64 n
abbrev nl:Value:=.slice none 0 0
theorem lifted (os:Os) (started:os.Started) (H:Type) (enc:TypeId × Value→H) :
  ReturnsInHanded {} Go.Proofs.Try.checked os 10 .any (Rows.xrayFewerSpec.pre6 enc Go.Proofs.Try.prog Go.Proofs.Try.f10 Rows.xrayFewerRow.domain false) (Rows.xrayFewerSpec.post enc Go.Proofs.Try.prog Go.Proofs.Try.f10 false true false false):=by
 refine returnsInHanded_of_change_sized (C:=Go.Proofs.Try.checked) own started (by kernel_rfl) (show Go.Proofs.Try.prog.funcs[10]?=some Go.Proofs.Try.f10 from by kernel_rfl)
  (ChangeSpec.witness6 (enc:=enc) (C:=Go.Proofs.Try.checked) false ⟨#[],#[.agg #[nl,iv 0,iv 0,iv 0],nl,.agg #[iv 0,iv 0],iv 0,.int .u8 0],[]⟩ 8 (by kernel_rfl) (by kernel_rfl) (by kernel_rfl) (by kernel_rfl)) ?_
 intro W base args ds gs before hval hW _ hwt _
 exact row_calls (args:=k10.args) (pre:=law06u_XrayFewer_p) (val:=law06u_XrayFewer) h10 (fun _ hf=>⟨hf.2.2.2.2.1,Int.le_trans hf.2.2.2.2.2 (by decide)⟩) (fun _=>rfl) tabs_ok4 heavy laid (by kernel_rfl) (by kernel_rfl) (B:=4) (by kernel_rfl) bool4 (by kernel_rfl)
  (fun ds hd=>by
   match ds,hd with
   | [_,_,_,_,_],_=>rfl) hval hW hwt
theorem said:Rows.XrayFewerSaid :=
 OpenClaim.holds_of_wide 10 Go.Proofs.Try.f10 rfl rfl rfl rfl rfl rfl rfl ⟨rfl,rfl,rfl,rfl,rfl⟩ rfl rfl rfl rfl rfl (by kernel_rfl) (show Go.Proofs.Try.prog.funcs[10]?=some Go.Proofs.Try.f10 from by kernel_rfl) (by kernel_rfl)
  (of_decide_eq_true (by kernel_rfl)) (by unfold Func.isWrapper;first | (rw [if_pos (by decide +kernel)];kernel_rfl) | (rw [if_neg (by decide +kernel)];exact ⟨rfl,rfl⟩))
  (fun os started H enc _=>lifted os started H enc)
end Go.Xr
namespace Go.Proofs.Ytkeeaadooechgaa
theorem xrayFewer_holds:Rows.XrayFewerSaid:=Go.Xr.said
end Go.Proofs.Ytkeeaadooechgaa
