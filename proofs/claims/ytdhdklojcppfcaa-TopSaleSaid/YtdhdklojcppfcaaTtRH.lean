/-
  The reference of the boxes: the contracts.
-/
import Derived.Test.YtdhdklojcppfcaaTtRP2
set_option linter.all false
set_option maxRecDepth 100000
open Go.Proofs.Try
namespace Go.Tt
open Go Go.Sx
theorem h81:Sx.Good prog 81 k81:=con_of mixed (fn:=f81) (by kernel_rfl) (by kernel_rfl) fun x hp=>⟨cx81,mkCx_ok zfY trivial trivial trivial,by kernel_rfl,by kernel_rfl,by rw [e81];exact v81 x hp⟩
theorem h82:Sx.Good prog 82 k82:=con_of mixed (fn:=f82) (by kernel_rfl) (by kernel_rfl) fun x hp=>⟨cx82,mkCx_ok zfY trivial trivial trivial,by kernel_rfl,by kernel_rfl,by rw [e82];exact v82 x hp⟩
theorem h97:Sx.Good prog 97 k97:=con_of mixed (fn:=f97) (by kernel_rfl) (by kernel_rfl) fun x hp=>⟨cx97,mkCx_ok zfY ⟨h82,trivial⟩ trivial trivial,by kernel_rfl,by kernel_rfl,by rw [e97];exact v97 x hp⟩
theorem h32:Sx.Good prog 32 k32:=con_of mixed (fn:=f32) (by kernel_rfl) (by kernel_rfl) fun x hp=>⟨cx32,mkCx_ok zfY ⟨h97,trivial⟩ trivial trivial,by kernel_rfl,by kernel_rfl,by rw [e32];exact v32 x hp⟩
theorem h23:Sx.Good prog 23 k23:=con_of mixed (fn:=f23) (by kernel_rfl) (by kernel_rfl) fun x hp=>⟨cx23,mkCx_ok zfY ⟨h81,h82,trivial⟩ trivial trivial,by kernel_rfl,by kernel_rfl,by rw [e23];exact v23 x hp⟩
end Go.Tt
