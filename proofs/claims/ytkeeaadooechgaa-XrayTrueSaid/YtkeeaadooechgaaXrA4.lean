/-
  XrayTrue returns true for every input, and leaves its arguments as they were.
-/
import Derived.Test.YtkeeaadooechgaaXrH2
import Derived.Test.YtkeeaadooechgaaXrQ2
import Derived.Test.YtkeeaadooechgaaSH
import Derived.Test.YtkeeaadooechgaaRows
import Derived.ProofKit
set_option linter.all false
set_option maxRecDepth 100000
namespace Go.Xr
open Go Go.Sx Go.Proofs.Ytkeeaadooechgaa
theorem own:ownKnob Go.Proofs.Try.prog.godebug=none:=by kernel_rfl
theorem laid:laidOutB Go.Proofs.Try.prog=true:=by kernel_rfl
theorem heavy:T2.heavy Go.Proofs.Try.prog=true:=by kernel_rfl
theorem bool4:Go.Proofs.Try.prog.underlying 4=some .bool:=by kernel_rfl
theorem h29:Sx.Good Go.Proofs.Try.prog 29 k29:=con_of mixed (show Go.Proofs.Try.prog.funcs[29]?=some Go.Proofs.Try.f29 from by kernel_rfl) (by kernel_rfl) fun x hp=>⟨cx29,mkCx_ok tabs_ok2 trivial trivial trivial,by kernel_rfl,by kernel_rfl,by rw [e29];exact v29 x hp⟩
theorem h30:Sx.Good Go.Proofs.Try.prog 30 k30:=con_of mixed (show Go.Proofs.Try.prog.funcs[30]?=some Go.Proofs.Try.f30 from by kernel_rfl) (by kernel_rfl) fun x hp=>⟨cx30,mkCx_ok tabs_ok2 ⟨h32,trivial⟩ trivial trivial,by kernel_rfl,by kernel_rfl,by rw [e30];exact v30 x hp⟩
theorem h6:Sx.Good Go.Proofs.Try.prog 6 k6:=con_of mixed (show Go.Proofs.Try.prog.funcs[6]?=some Go.Proofs.Try.f6 from by kernel_rfl) (by kernel_rfl) fun x hp=>⟨cx6,mkCx_ok tabs_ok2 ⟨h28,h13,h29,h30,h31,h14,h16,h18,h32,h20,trivial⟩ trivial trivial,by kernel_rfl,by kernel_rfl,by rw [e6];exact v6 x hp⟩
abbrev iv (n:Int):Value:=.int .i64 n
abbrev nl:Value:=.slice none 0 0
theorem lifted (os:Os) (started:os.Started) (H:Type) (enc:TypeId × Value→H) :
  ReturnsInHanded {} Go.Proofs.Try.checked os 6 .any (Rows.xrayTrueSpec.pre6 enc Go.Proofs.Try.prog Go.Proofs.Try.f6 Rows.xrayTrueRow.domain false) (Rows.xrayTrueSpec.post enc Go.Proofs.Try.prog Go.Proofs.Try.f6 false true false false):=by
 refine returnsInHanded_of_change_sized (C:=Go.Proofs.Try.checked) own started (by kernel_rfl) (show Go.Proofs.Try.prog.funcs[6]?=some Go.Proofs.Try.f6 from by kernel_rfl)
  (ChangeSpec.witness6 (enc:=enc) (C:=Go.Proofs.Try.checked) false ⟨#[],#[.agg #[nl,iv 0,iv 0,iv 0],.int .u8 0,.int .u8 0,nl],[]⟩ 8 (by kernel_rfl) (by kernel_rfl) (by kernel_rfl) (by kernel_rfl)) ?_
 intro W base args ds gs before hval hW _ hwt _
 exact row_calls (args:=k6.args) (pre:=law06u_XrayTrue_p) (val:=law06u_XrayTrue) h6 (fun _ hf=>by obtain ⟨_,h1,h2,h3⟩:=hf;have h3:=h3.2;exact ⟨⟨h1.1,Int.le_trans h1.2 (by decide)⟩,⟨h2.1,Int.le_trans h2.2 (by decide)⟩,fun b hb=>⟨(h3 b hb).1,Int.le_trans (h3 b hb).2 (by decide)⟩⟩) (fun _=>rfl) tabs_ok2 heavy laid (by kernel_rfl) (by kernel_rfl) (B:=4) (by kernel_rfl) bool4 (by kernel_rfl)
  (fun ds hd=>by
   match ds,hd with
   | [_,_,_,_],_=>rfl) hval hW hwt
theorem said:Rows.XrayTrueSaid :=
 OpenClaim.holds_of_wide 6 Go.Proofs.Try.f6 rfl rfl rfl rfl rfl rfl rfl ⟨rfl,rfl,rfl,rfl,rfl⟩ rfl rfl rfl rfl rfl (by kernel_rfl) (show Go.Proofs.Try.prog.funcs[6]?=some Go.Proofs.Try.f6 from by kernel_rfl) (by kernel_rfl)
  (of_decide_eq_true (by kernel_rfl)) (by unfold Func.isWrapper;first | (rw [if_pos (by decide +kernel)];kernel_rfl) | (rw [if_neg (by decide +kernel)];exact ⟨rfl,rfl⟩))
  (fun os started H enc _=>lifted os started H enc)
end Go.Xr
namespace Go.Proofs.Ytkeeaadooechgaa
theorem xrayTrue_holds:Rows.XrayTrueSaid:=Go.Xr.said
end Go.Proofs.Ytkeeaadooechgaa
