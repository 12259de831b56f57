/-
  Order: the contracts.
-/
import Derived.Test.YtdhdklojcppfcaaTtSP3
import Derived.Test.YtdhdklojcppfcaaTtRP2
set_option linter.all false
set_option maxRecDepth 100000
open Go.Proofs.Try
namespace Go.Tt
open Go Go.Sx
theorem h87:Sx.GoodN prog 87 k87:=ncon_of mixed (fn:=f87) (by kernel_rfl) (by kernel_rfl) fun x hp=>⟨cx87,mkCx_ok tabs_ok trivial trivial trivial,by kernel_rfl,by kernel_rfl,by rw [e87];exact v87 x hp⟩
end Go.Tt
/-
 Shade: the contracts.
-/
namespace Go.Tt
open Go Go.Sx
theorem h62:Sx.Good prog 62 k62:=con_of mixed (fn:=f62) (by kernel_rfl) (by kernel_rfl) fun x hp=>⟨cx62,mkCx_ok zoM trivial trivial trivial,by kernel_rfl,by kernel_rfl,by rw [e62];exact v62 x hp⟩
end Go.Tt
/-
 Box: the contracts.
-/
namespace Go.Tt
open Go Go.Sx
theorem h137:Sx.Good prog 137 k137:=con_of mixed (fn:=f137) (by kernel_rfl) (by kernel_rfl) fun x hp=>⟨cx137,mkCx_ok zau trivial trivial trivial,by kernel_rfl,by kernel_rfl,by rw [e137];exact v137 x hp⟩
theorem h136:Sx.Good prog 136 k136:=con_of mixed (fn:=f136) (by kernel_rfl) (by kernel_rfl) fun x hp=>⟨cx136,mkCx_ok zau ⟨h137,trivial⟩ trivial trivial,by kernel_rfl,by kernel_rfl,by rw [e136];exact v136 x hp⟩
theorem h138:Sx.Good prog 138 k138:=con_of mixed (fn:=f138) (by kernel_rfl) (by kernel_rfl) fun x hp=>⟨cx138,mkCx_ok zau ⟨h137,trivial⟩ trivial trivial,by kernel_rfl,by kernel_rfl,by rw [e138];exact v138 x hp⟩
theorem h180:Sx.Good prog 180 k180:=con_of mixed (fn:=f180) (by kernel_rfl) (by kernel_rfl) fun x hp=>⟨cx180,mkCx_ok zau trivial trivial trivial,by kernel_rfl,by kernel_rfl,by rw [e180];exact v180 x hp⟩
theorem h139:Sx.Good prog 139 k139:=con_of mixed (fn:=f139) (by kernel_rfl) (by kernel_rfl) fun x hp=>⟨cx139,mkCx_ok zau ⟨h180,trivial⟩ trivial trivial,by kernel_rfl,by kernel_rfl,by rw [e139];exact v139 x hp⟩
theorem h181:Sx.Good prog 181 k181:=con_of mixed (fn:=f181) (by kernel_rfl) (by kernel_rfl) fun x hp=>⟨cx181,mkCx_ok zau trivial trivial trivial,by kernel_rfl,by kernel_rfl,by rw [e181];exact v181 x hp⟩
theorem h140:Sx.Good prog 140 k140:=con_of mixed (fn:=f140) (by kernel_rfl) (by kernel_rfl) fun x hp=>⟨cx140,mkCx_ok zau ⟨h181,trivial⟩ trivial trivial,by kernel_rfl,by kernel_rfl,by rw [e140];exact v140 x hp⟩
theorem h141:Sx.Good prog 141 k141:=con_of mixed (fn:=f141) (by kernel_rfl) (by kernel_rfl) fun x hp=>⟨cx141,mkCx_ok zau trivial trivial trivial,by kernel_rfl,by kernel_rfl,by rw [e141];exact v141 x hp⟩
theorem h72:Sx.Good prog 72 k72:=con_of mixed (fn:=f72) (by kernel_rfl) (by kernel_rfl) fun x hp=>⟨cx72,mkCx_ok zau ⟨h136,h138,h137,h139,h140,h141,trivial⟩ trivial trivial,by kernel_rfl,by kernel_rfl,by rw [e72];exact v72 x hp⟩
theorem h85:Sx.Good prog 85 k85:=con_of mixed (fn:=f85) (by kernel_rfl) (by kernel_rfl) fun x hp=>⟨cx85,mkCx_ok zau trivial trivial trivial,by kernel_rfl,by kernel_rfl,by rw [e85];exact v85 x hp⟩
theorem h80:Sx.Good prog 80 k80:=con_of mixed (fn:=f80) (by kernel_rfl) (by kernel_rfl) fun x hp=>⟨cx80,mkCx_ok zau ⟨h85,trivial⟩ trivial trivial,by kernel_rfl,by kernel_rfl,by rw [e80];exact v80 x hp⟩
theorem h144:Sx.Good prog 144 k144:=con_of mixed (fn:=f144) (by kernel_rfl) (by kernel_rfl) fun x hp=>⟨cx144,mkCx_ok zau trivial trivial trivial,by kernel_rfl,by kernel_rfl,by rw [e144];exact v144 x hp⟩
theorem h143:Sx.GoodI prog 143 k143:=icon_of mixed (fn:=f143) (by kernel_rfl) (by kernel_rfl) fun x ly hp=>⟨(cx143 ly x),300000,mkCx_ok zau trivial trivial trivial,by kernel_rfl,by kernel_rfl,by rw [e143];exact v143 ly x hp⟩
theorem h78:Sx.Good prog 78 k78:=con_of mixed (fn:=f78) (by kernel_rfl) (by kernel_rfl) fun x hp=>⟨cx78,mkCx_ok zau trivial trivial ⟨h143,trivial⟩,by kernel_rfl,by kernel_rfl,by rw [e78];exact v78 x hp⟩
theorem h77:Sx.Good prog 77 k77:=con_of mixed (fn:=f77) (by kernel_rfl) (by kernel_rfl) fun x hp=>⟨cx77,mkCx_ok zau trivial trivial trivial,by kernel_rfl,by kernel_rfl,by rw [e77];exact v77 x hp⟩
theorem h79:Sx.Good prog 79 k79:=con_of mixed (fn:=f79) (by kernel_rfl) (by kernel_rfl) fun x hp=>⟨cx79,mkCx_ok zau ⟨h144,trivial⟩ trivial trivial,by kernel_rfl,by kernel_rfl,by rw [e79];exact v79 x hp⟩
theorem q153u_4:Sx.GoodQ prog i153u_4:=inl_of mixed (fn:=f192) (by kernel_rfl) (by kernel_rfl) (zio (mkCx_ok zau trivial trivial trivial)) rfl rfl
theorem h153:Sx.Good prog 153 k153:=con_of mixed (fn:=f153) (by kernel_rfl) (by kernel_rfl) fun x hp=>⟨cx153,zin (mkCx_ok zau trivial trivial trivial) ⟨q153u_4,trivial⟩,by kernel_rfl,by kernel_rfl,by rw [e153];exact v153 x hp⟩
theorem h152:Sx.Good prog 152 k152:=con_of mixed (fn:=f152) (by kernel_rfl) (by kernel_rfl) fun x hp=>⟨cx152,mkCx_ok zau ⟨h80,h79,trivial⟩ trivial trivial,by kernel_rfl,by kernel_rfl,by rw [e152];exact v152 x hp⟩
theorem h95:Sx.Good prog 95 k95:=con_of mixed (fn:=f95) (by kernel_rfl) (by kernel_rfl) fun x hp=>⟨cx95,mkCx_ok zau ⟨h77,h78,h153,h152,trivial⟩ trivial trivial,by kernel_rfl,by kernel_rfl,by rw [e95];exact v95 x hp⟩
theorem h76:Sx.GoodN prog 76 k76:=ncon_of mixed (fn:=f76) (by kernel_rfl) (by kernel_rfl) fun x hp=>⟨cx76,zee zau trivial trivial trivial ⟨h87,trivial⟩,by kernel_rfl,by kernel_rfl,by rw [e76];exact v76 x hp⟩
theorem h75:Sx.Good prog 75 k75:=con_of mixed (fn:=f75) (by kernel_rfl) (by kernel_rfl) fun x hp=>⟨cx75,mkCx_ok zau ⟨h95,trivial⟩ trivial trivial,by kernel_rfl,by kernel_rfl,by rw [e75];exact v75 x hp⟩
theorem h142:Sx.Good prog 142 k142:=con_of mixed (fn:=f142) (by kernel_rfl) (by kernel_rfl) fun x hp=>⟨cx142,mkCx_ok zau trivial trivial trivial,by kernel_rfl,by kernel_rfl,by rw [e142];exact v142 x hp⟩
theorem h73:Sx.Good prog 73 k73:=con_of mixed (fn:=f73) (by kernel_rfl) (by kernel_rfl) fun x hp=>⟨cx73,mkCx_ok zau ⟨h142,h62,trivial⟩ trivial trivial,by kernel_rfl,by kernel_rfl,by rw [e73];exact v73 x hp⟩
theorem h84:Sx.GoodN prog 84 k84:=ncon_of mixed (fn:=f84) (by kernel_rfl) (by kernel_rfl) fun x hp=>⟨cx84,mkCx_ok zau trivial trivial trivial,by kernel_rfl,by kernel_rfl,by rw [e84];exact v84 x hp⟩
theorem h86:Sx.Good prog 86 k86:=con_of mixed (fn:=f86) (by kernel_rfl) (by kernel_rfl) fun x hp=>⟨cx86,zee zau ⟨h75,trivial⟩ trivial trivial ⟨h87,h84,trivial⟩,by kernel_rfl,by kernel_rfl,by rw [e86];exact v86 x hp⟩
theorem h83:Sx.Good prog 83 k83:=con_of mixed (fn:=f83) (by kernel_rfl) (by kernel_rfl) fun x hp=>⟨cx83,mkCx_ok zau ⟨h72,h137,trivial⟩ trivial trivial,by kernel_rfl,by kernel_rfl,by rw [e83];exact v83 x hp⟩
theorem h74:Sx.Good prog 74 k74:=con_of mixed (fn:=f74) (by kernel_rfl) (by kernel_rfl) fun x hp=>⟨cx74,zee zau ⟨h75,trivial⟩ trivial trivial ⟨h76,trivial⟩,by kernel_rfl,by kernel_rfl,by rw [e74];exact v74 x hp⟩
theorem h22:Sx.Good prog 22 k22:=con_of mixed (fn:=f22) (by kernel_rfl) (by kernel_rfl) fun x hp=>⟨cx22,zee zau ⟨h72,h74,h73,h77,h78,h79,h80,trivial⟩ trivial trivial ⟨h76,trivial⟩,by kernel_rfl,by kernel_rfl,by rw [e22];exact v22 x hp⟩
theorem h30:Sx.Good prog 30 k30:=con_of mixed (fn:=f30) (by kernel_rfl) (by kernel_rfl) fun x hp=>⟨cx30,zee zau ⟨h83,h95,trivial⟩ trivial trivial ⟨h76,trivial⟩,by kernel_rfl,by kernel_rfl,by rw [e30];exact v30 x hp⟩
theorem h26:Sx.Good prog 26 k26:=con_of mixed (fn:=f26) (by kernel_rfl) (by kernel_rfl) fun x hp=>⟨cx26,zlG (zio (zee zau ⟨h83,h75,h85,h86,h73,trivial⟩ trivial trivial ⟨h76,h84,h87,trivial⟩)),by kernel_rfl,by kernel_rfl,by rw [e26];exact v26 x hp⟩
end Go.Tt
/-
 The reference of the boxes: the contracts.
-/
namespace Go.Tt
open Go Go.Sx
theorem h82:Sx.Good prog 82 k82:=con_of mixed (fn:=f82) (by kernel_rfl) (by kernel_rfl) fun x hp=>⟨cx82,mkCx_ok zfE trivial trivial trivial,by kernel_rfl,by kernel_rfl,by rw [e82];exact v82 x hp⟩
theorem h97:Sx.Good prog 97 k97:=con_of mixed (fn:=f97) (by kernel_rfl) (by kernel_rfl) fun x hp=>⟨cx97,mkCx_ok zfE ⟨h82,trivial⟩ trivial trivial,by kernel_rfl,by kernel_rfl,by rw [e97];exact v97 x hp⟩
theorem h96:Sx.Good prog 96 k96:=con_of mixed (fn:=f96) (by kernel_rfl) (by kernel_rfl) fun x hp=>⟨cx96,mkCx_ok zfE ⟨h97,trivial⟩ trivial trivial,by kernel_rfl,by kernel_rfl,by rw [e96];exact v96 x hp⟩
theorem h31:Sx.Good prog 31 k31:=con_of mixed (fn:=f31) (by kernel_rfl) (by kernel_rfl) fun x hp=>⟨cx31,mkCx_ok zfE ⟨h96,trivial⟩ trivial trivial,by kernel_rfl,by kernel_rfl,by rw [e31];exact v31 x hp⟩
theorem h32:Sx.Good prog 32 k32:=con_of mixed (fn:=f32) (by kernel_rfl) (by kernel_rfl) fun x hp=>⟨cx32,mkCx_ok zfE ⟨h97,trivial⟩ trivial trivial,by kernel_rfl,by kernel_rfl,by rw [e32];exact v32 x hp⟩
end Go.Tt
