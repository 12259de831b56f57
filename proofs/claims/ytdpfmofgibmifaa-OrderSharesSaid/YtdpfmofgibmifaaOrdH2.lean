/-
  Chapter 10: the contracts of the reference's functions.
-/
import Derived.Test.YtdpfmofgibmifaaOrdP11
import Derived.Test.YtdpfmofgibmifaaOrdH1
set_option linter.all false
set_option maxRecDepth 100000
namespace Go.Ord
open Go Go.Sx
theorem h39:Sx.Good Go.Proofs.Try.prog 39 k39:=con_of mixed (show Go.Proofs.Try.prog.funcs[39]?=some Go.Proofs.Try.f39 from by kernel_rfl) (by kernel_rfl) fun x hp=>⟨cx39,mkCx_ok zcJ trivial trivial trivial,by kernel_rfl,by kernel_rfl,by rw [e39];exact v39 x hp⟩
theorem h48:Sx.Good Go.Proofs.Try.prog 48 k48:=con_of mixed (show Go.Proofs.Try.prog.funcs[48]?=some Go.Proofs.Try.f48 from by kernel_rfl) (by kernel_rfl) fun x hp=>⟨cx48,mkCx_ok zcJ ⟨h39,trivial⟩ trivial trivial,by kernel_rfl,by kernel_rfl,by rw [e48];exact v48 x hp⟩
theorem h33:Sx.Good Go.Proofs.Try.prog 33 k33:=con_of mixed (show Go.Proofs.Try.prog.funcs[33]?=some Go.Proofs.Try.f33 from by kernel_rfl) (by kernel_rfl) fun x hp=>⟨cx33,mkCx_ok zcJ ⟨h48,trivial⟩ trivial trivial,by kernel_rfl,by kernel_rfl,by rw [e33];exact v33 x hp⟩
theorem h25:Sx.Good Go.Proofs.Try.prog 25 k25:=con_of mixed (show Go.Proofs.Try.prog.funcs[25]?=some Go.Proofs.Try.f25 from by kernel_rfl) (by kernel_rfl) fun x hp=>⟨cx25,mkCx_ok zcJ ⟨h39,h53,h54,trivial⟩ trivial trivial,by kernel_rfl,by kernel_rfl,by rw [e25];exact v25 x hp⟩
theorem h28:Sx.Good Go.Proofs.Try.prog 28 k28:=con_of mixed (show Go.Proofs.Try.prog.funcs[28]?=some Go.Proofs.Try.f28 from by kernel_rfl) (by kernel_rfl) fun x hp=>⟨cx28,mkCx_ok zcJ trivial trivial trivial,by kernel_rfl,by kernel_rfl,by rw [e28];exact v28 x hp⟩
theorem h27:Sx.Good Go.Proofs.Try.prog 27 k27:=con_of mixed (show Go.Proofs.Try.prog.funcs[27]?=some Go.Proofs.Try.f27 from by kernel_rfl) (by kernel_rfl) fun x hp=>⟨cx27,zbH (withNlp_ok (mkCx_ok zcJ ⟨h48,trivial⟩ trivial trivial)),by kernel_rfl,by kernel_rfl,by rw [e27];exact v27 x hp⟩
theorem h31:Sx.Good Go.Proofs.Try.prog 31 k31:=con_of mixed (show Go.Proofs.Try.prog.funcs[31]?=some Go.Proofs.Try.f31 from by kernel_rfl) (by kernel_rfl) fun x hp=>⟨cx31,mkCx_ok zcJ ⟨h27,trivial⟩ trivial trivial,by kernel_rfl,by kernel_rfl,by rw [e31];exact v31 x hp⟩
theorem h32:Sx.Good Go.Proofs.Try.prog 32 k32:=con_of mixed (show Go.Proofs.Try.prog.funcs[32]?=some Go.Proofs.Try.f32 from by kernel_rfl) (by kernel_rfl) fun x hp=>⟨cx32,mkCx_ok zcJ ⟨h48,trivial⟩ trivial trivial,by kernel_rfl,by kernel_rfl,by rw [e32];exact v32 x hp⟩
theorem h29:Sx.Good Go.Proofs.Try.prog 29 k29:=con_of mixed (show Go.Proofs.Try.prog.funcs[29]?=some Go.Proofs.Try.f29 from by kernel_rfl) (by kernel_rfl) fun x hp=>⟨cx29,mkCx_ok zcJ ⟨h48,h32,trivial⟩ trivial trivial,by kernel_rfl,by kernel_rfl,by rw [e29];exact v29 x hp⟩
theorem h44:Sx.Good Go.Proofs.Try.prog 44 k44:=con_of mixed (show Go.Proofs.Try.prog.funcs[44]?=some Go.Proofs.Try.f44 from by kernel_rfl) (by kernel_rfl) fun x hp=>⟨cx44,mkCx_ok zcJ ⟨h39,h32,h33,trivial⟩ trivial trivial,by kernel_rfl,by kernel_rfl,by rw [e44];exact v44 x hp⟩
theorem h20:Sx.Good Go.Proofs.Try.prog 20 k20:=con_of mixed (show Go.Proofs.Try.prog.funcs[20]?=some Go.Proofs.Try.f20 from by kernel_rfl) (by kernel_rfl) fun x hp=>⟨cx20,mkCx_ok zcJ ⟨h25,h31,h28,h39,h48,h29,trivial⟩ trivial trivial,by kernel_rfl,by kernel_rfl,by rw [e20];exact v20 x hp⟩
theorem h13:Sx.Good Go.Proofs.Try.prog 13 k13:=con_of mixed (show Go.Proofs.Try.prog.funcs[13]?=some Go.Proofs.Try.f13 from by kernel_rfl) (by kernel_rfl) fun x hp=>⟨cx13,mkCx_ok zcJ ⟨h25,trivial⟩ trivial trivial,by kernel_rfl,by kernel_rfl,by rw [e13];exact v13 x hp⟩
end Go.Ord
