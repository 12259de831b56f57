/-
  XrayEnough returns true for every input, and leaves its arguments as they were.
-/
import Derived.Test.YtkeeaadooechgaaXrH2
import Derived.Test.YtkeeaadooechgaaXrQ5
import Derived.Test.YtkeeaadooechgaaSH
import Derived.Test.YtkeeaadooechgaaRows
import Derived.ProofKit
set_option linter.all false
set_option maxRecDepth 100000
namespace Go.Xr
open Go Go.Sx Go.Proofs.Ytkeeaadooechgaa
theorem own:ownKnob Go.Proofs.Try.prog.godebug=none:=by kernel_rfl
theorem laid:laidOutB Go.Proofs.Try.prog=true:=by kernel_rfl
theorem heavy:T4.heavy Go.Proofs.Try.prog=true:=by kernel_rfl
theorem bool4:Go.Proofs.Try.prog.underlying 4=some .bool:=by kernel_rfl
theorem h34:Sx.Good Go.Proofs.Try.prog 34 k34:=con_of mixed (show Go.Proofs.Try.prog.funcs[34]?=some Go.Proofs.Try.f34 from by kernel_rfl) (by kernel_rfl) fun x hp=>⟨cx34,mkCx_ok tabs_ok4 trivial trivial trivial,by kernel_rfl,by kernel_rfl,by rw [e34];exact v34 x hp⟩
theorem h8:Sx.Good Go.Proofs.Try.prog 8 k8:=con_of mixed (show Go.Proofs.Try.prog.funcs[8]?=some Go.Proofs.Try.f8 from by kernel_rfl) (by kernel_rfl) fun x hp=>⟨cx8,mkCx_ok tabs_ok4 ⟨h13,h22,h28,h34,h35,h20,trivial⟩ trivial trivial,by kernel_rfl,by kernel_rfl,by rw [e8];exact v8 x hp⟩
abbrev iv (n:Int):Value:=.int .i64 n
abbrev nl:Value:=.slice none 0 0
theorem lifted (os:Os) (started:os.Started) (H:Type) (enc:TypeId × Value→H) :
  ReturnsInHanded {} Go.Proofs.Try.checked os 8 .any (Rows.xrayEnoughSpec.pre6 enc Go.Proofs.Try.prog Go.Proofs.Try.f8 Rows.xrayEnoughRow.domain false) (Rows.xrayEnoughSpec.post enc Go.Proofs.Try.prog Go.Proofs.Try.f8 false true false false):=by
 refine returnsInHanded_of_change_sized (C:=Go.Proofs.Try.checked) own started (by kernel_rfl) (show Go.Proofs.Try.prog.funcs[8]?=some Go.Proofs.Try.f8 from by kernel_rfl)
  (ChangeSpec.witness6 (enc:=enc) (C:=Go.Proofs.Try.checked) false ⟨#[],#[.agg #[nl,iv 0,iv 0,iv 0],iv 0,nl],[]⟩ 8 (by kernel_rfl) (by kernel_rfl) (by kernel_rfl) (by kernel_rfl)) ?_
 intro W base args ds gs before hval hW _ hwt _
 exact row_calls (args:=k8.args) (pre:=law06u_XrayEnough_p) (val:=law06u_XrayEnough) h8 (fun _ hf=>by obtain ⟨_,_,h3⟩:=hf;have h3:=h3.2;exact fun b hb=>⟨(h3 b hb).1,Int.le_trans (h3 b hb).2 (by decide)⟩) (fun _=>rfl) tabs_ok4 heavy laid (by kernel_rfl) (by kernel_rfl) (B:=4) (by kernel_rfl) bool4 (by kernel_rfl)
  (fun ds hd=>by
   match ds,hd with
   | [_,_,_],_=>rfl) hval hW hwt
theorem said:Rows.XrayEnoughSaid :=
 OpenClaim.holds_of_wide 8 Go.Proofs.Try.f8 rfl rfl rfl rfl rfl rfl rfl ⟨rfl,rfl,rfl,rfl,rfl⟩ rfl rfl rfl rfl rfl (by kernel_rfl) (show Go.Proofs.Try.prog.funcs[8]?=some Go.Proofs.Try.f8 from by kernel_rfl) (by kernel_rfl)
  (of_decide_eq_true (by kernel_rfl)) (by unfold Func.isWrapper;first | (rw [if_pos (by decide +kernel)];kernel_rfl) | (rw [if_neg (by decide +kernel)];exact ⟨rfl,rfl⟩))
  (fun os started H enc _=>lifted os started H enc)
end Go.Xr
namespace Go.Proofs.Ytkeeaadooechgaa
theorem xrayEnough_holds:Rows.XrayEnoughSaid:=Go.Xr.said
end Go.Proofs.Ytkeeaadooechgaa
