/-
  XrayMore returns true for every input, and leaves its arguments as they were.
-/
import Derived.Test.YtkeeaadooechgaaXrH2
import Derived.Test.YtkeeaadooechgaaXrQ3
import Derived.Test.YtkeeaadooechgaaSH
import Derived.Test.YtkeeaadooechgaaRows
import Derived.ProofKit
set_option linter.all false
set_option maxRecDepth 100000
namespace Go.Xr
open Go Go.Sx Go.Proofs.Ytkeeaadooechgaa
theorem own:ownKnob Go.Proofs.Try.prog.godebug=none:=by kernel_rfl
theorem laid:laidOutB Go.Proofs.Try.prog=true:=by kernel_rfl
theorem heavy:T2.heavy Go.Proofs.Try.prog=true:=by kernel_rfl
theorem bool4:Go.Proofs.Try.prog.underlying 4=some .bool:=by kernel_rfl
theorem h9:Sx.Good Go.Proofs.Try.prog 9 k9:=con_of mixed (show Go.Proofs.Try.prog.funcs[9]?=some Go.Proofs.Try.f9 from by kernel_rfl) (by kernel_rfl) fun x hp=>⟨cx9,mkCx_ok tabs_ok2 ⟨h13,h14,h16,h28,h18,trivial⟩ trivial trivial,by kernel_rfl,by kernel_rfl,by rw [e9];exact v9 x hp⟩
abbrev iv (n:Int):Value:=.int .i64 n
abbrev nl:Value:=.slice none 0 0
theorem lifted (os:Os) (started:os.Started) (H:Type) (enc:TypeId × Value→H) :
  ReturnsInHanded {} Go.Proofs.Try.checked os 9 .any (Rows.xrayMoreSpec.pre6 enc Go.Proofs.Try.prog Go.Proofs.Try.f9 Rows.xrayMoreRow.domain false) (Rows.xrayMoreSpec.post enc Go.Proofs.Try.prog Go.Proofs.Try.f9 false true false false):=by
 refine returnsInHanded_of_change_sized (C:=Go.Proofs.Try.checked) own started (by kernel_rfl) (show Go.Proofs.Try.prog.funcs[9]?=some Go.Proofs.Try.f9 from by kernel_rfl)
  (ChangeSpec.witness6 (enc:=enc) (C:=Go.Proofs.Try.checked) false ⟨#[],#[.agg #[nl,iv 0,iv 0,iv 0],nl,.agg #[iv 0,iv 0,iv 0],.int .u8 0],[]⟩ 8 (by kernel_rfl) (by kernel_rfl) (by kernel_rfl) (by kernel_rfl)) ?_
 intro W base args ds gs before hval hW _ hwt _
 exact row_calls (args:=k9.args) (pre:=law06u_XrayMore_p) (val:=law06u_XrayMore) h9 (fun _ hf=>⟨hf.2.2.2.1,Int.le_trans hf.2.2.2.2 (by decide)⟩) (fun _=>rfl) tabs_ok2 heavy laid (by kernel_rfl) (by kernel_rfl) (B:=4) (by kernel_rfl) bool4 (by kernel_rfl)
  (fun ds hd=>by
   match ds,hd with
   | [_,_,_,_],_=>rfl) hval hW hwt
theorem said:Rows.XrayMoreSaid :=
 OpenClaim.holds_of_wide 9 Go.Proofs.Try.f9 rfl rfl rfl rfl rfl rfl rfl ⟨rfl,rfl,rfl,rfl,rfl⟩ rfl rfl rfl rfl rfl (by kernel_rfl) (show Go.Proofs.Try.prog.funcs[9]?=some Go.Proofs.Try.f9 from by kernel_rfl) (by kernel_rfl)
  (of_decide_eq_true (by kernel_rfl)) (by unfold Func.isWrapper;first | (rw [if_pos (by decide +kernel)];kernel_rfl) | (rw [if_neg (by decide +kernel)];exact ⟨rfl,rfl⟩))
  (fun os started H enc _=>lifted os started H enc)
end Go.Xr
namespace Go.Proofs.Ytkeeaadooechgaa
theorem xrayMore_holds:Rows.XrayMoreSaid:=Go.Xr.said
end Go.Proofs.Ytkeeaadooechgaa
