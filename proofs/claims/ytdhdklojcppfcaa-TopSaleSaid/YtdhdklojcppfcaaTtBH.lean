/-
  Box: the contracts.
-/
import Derived.Test.YtdhdklojcppfcaaTtBP6
import Derived.Test.YtdhdklojcppfcaaTtOH
import Derived.Test.YtdhdklojcppfcaaTtSH
set_option linter.all false
set_option maxRecDepth 100000
open Go.Proofs.Try
namespace Go.Tt
open Go Go.Sx
theorem h137:Sx.Good prog 137 k137:=con_of mixed (fn:=f137) (by kernel_rfl) (by kernel_rfl) fun x hp=>⟨cx137,mkCx_ok zaB trivial trivial trivial,by kernel_rfl,by kernel_rfl,by rw [e137];exact v137 x hp⟩
theorem h136:Sx.Good prog 136 k136:=con_of mixed (fn:=f136) (by kernel_rfl) (by kernel_rfl) fun x hp=>⟨cx136,mkCx_ok zaB ⟨h137,trivial⟩ trivial trivial,by kernel_rfl,by kernel_rfl,by rw [e136];exact v136 x hp⟩
theorem h138:Sx.Good prog 138 k138:=con_of mixed (fn:=f138) (by kernel_rfl) (by kernel_rfl) fun x hp=>⟨cx138,mkCx_ok zaB ⟨h137,trivial⟩ trivial trivial,by kernel_rfl,by kernel_rfl,by rw [e138];exact v138 x hp⟩
theorem h180:Sx.Good prog 180 k180:=con_of mixed (fn:=f180) (by kernel_rfl) (by kernel_rfl) fun x hp=>⟨cx180,mkCx_ok zaB trivial trivial trivial,by kernel_rfl,by kernel_rfl,by rw [e180];exact v180 x hp⟩
theorem h139:Sx.Good prog 139 k139:=con_of mixed (fn:=f139) (by kernel_rfl) (by kernel_rfl) fun x hp=>⟨cx139,mkCx_ok zaB ⟨h180,trivial⟩ trivial trivial,by kernel_rfl,by kernel_rfl,by rw [e139];exact v139 x hp⟩
theorem h181:Sx.Good prog 181 k181:=con_of mixed (fn:=f181) (by kernel_rfl) (by kernel_rfl) fun x hp=>⟨cx181,mkCx_ok zaB trivial trivial trivial,by kernel_rfl,by kernel_rfl,by rw [e181];exact v181 x hp⟩
theorem h140:Sx.Good prog 140 k140:=con_of mixed (fn:=f140) (by kernel_rfl) (by kernel_rfl) fun x hp=>⟨cx140,mkCx_ok zaB ⟨h181,trivial⟩ trivial trivial,by kernel_rfl,by kernel_rfl,by rw [e140];exact v140 x hp⟩
theorem h141:Sx.Good prog 141 k141:=con_of mixed (fn:=f141) (by kernel_rfl) (by kernel_rfl) fun x hp=>⟨cx141,mkCx_ok zaB trivial trivial trivial,by kernel_rfl,by kernel_rfl,by rw [e141];exact v141 x hp⟩
theorem h72:Sx.Good prog 72 k72:=con_of mixed (fn:=f72) (by kernel_rfl) (by kernel_rfl) fun x hp=>⟨cx72,mkCx_ok zaB ⟨h136,h138,h137,h139,h140,h141,trivial⟩ trivial trivial,by kernel_rfl,by kernel_rfl,by rw [e72];exact v72 x hp⟩
theorem h85:Sx.Good prog 85 k85:=con_of mixed (fn:=f85) (by kernel_rfl) (by kernel_rfl) fun x hp=>⟨cx85,mkCx_ok zaB trivial trivial trivial,by kernel_rfl,by kernel_rfl,by rw [e85];exact v85 x hp⟩
theorem h80:Sx.Good prog 80 k80:=con_of mixed (fn:=f80) (by kernel_rfl) (by kernel_rfl) fun x hp=>⟨cx80,mkCx_ok zaB ⟨h85,trivial⟩ trivial trivial,by kernel_rfl,by kernel_rfl,by rw [e80];exact v80 x hp⟩
theorem h144:Sx.Good prog 144 k144:=con_of mixed (fn:=f144) (by kernel_rfl) (by kernel_rfl) fun x hp=>⟨cx144,mkCx_ok zaB trivial trivial trivial,by kernel_rfl,by kernel_rfl,by rw [e144];exact v144 x hp⟩
theorem h143:Sx.GoodI prog 143 k143:=icon_of mixed (fn:=f143) (by kernel_rfl) (by kernel_rfl) fun x ly hp=>⟨(cx143 ly x),300000,mkCx_ok zaB trivial trivial trivial,by kernel_rfl,by kernel_rfl,by rw [e143];exact v143 ly x hp⟩
theorem h78:Sx.Good prog 78 k78:=con_of mixed (fn:=f78) (by kernel_rfl) (by kernel_rfl) fun x hp=>⟨cx78,mkCx_ok zaB trivial trivial ⟨h143,trivial⟩,by kernel_rfl,by kernel_rfl,by rw [e78];exact v78 x hp⟩
theorem h77:Sx.Good prog 77 k77:=con_of mixed (fn:=f77) (by kernel_rfl) (by kernel_rfl) fun x hp=>⟨cx77,mkCx_ok zaB trivial trivial trivial,by kernel_rfl,by kernel_rfl,by rw [e77];exact v77 x hp⟩
theorem h79:Sx.Good prog 79 k79:=con_of mixed (fn:=f79) (by kernel_rfl) (by kernel_rfl) fun x hp=>⟨cx79,mkCx_ok zaB ⟨h144,trivial⟩ trivial trivial,by kernel_rfl,by kernel_rfl,by rw [e79];exact v79 x hp⟩
theorem q153u_4:Sx.GoodQ prog i153u_4:=inl_of mixed (fn:=f192) (by kernel_rfl) (by kernel_rfl) (zbO (mkCx_ok zaB trivial trivial trivial)) rfl rfl
theorem h153:Sx.Good prog 153 k153:=con_of mixed (fn:=f153) (by kernel_rfl) (by kernel_rfl) fun x hp=>⟨cx153,zji (mkCx_ok zaB trivial trivial trivial) ⟨q153u_4,trivial⟩,by kernel_rfl,by kernel_rfl,by rw [e153];exact v153 x hp⟩
theorem h152:Sx.Good prog 152 k152:=con_of mixed (fn:=f152) (by kernel_rfl) (by kernel_rfl) fun x hp=>⟨cx152,mkCx_ok zaB ⟨h80,h79,trivial⟩ trivial trivial,by kernel_rfl,by kernel_rfl,by rw [e152];exact v152 x hp⟩
theorem h95:Sx.Good prog 95 k95:=con_of mixed (fn:=f95) (by kernel_rfl) (by kernel_rfl) fun x hp=>⟨cx95,mkCx_ok zaB ⟨h77,h78,h153,h152,trivial⟩ trivial trivial,by kernel_rfl,by kernel_rfl,by rw [e95];exact v95 x hp⟩
theorem h76:Sx.GoodN prog 76 k76:=ncon_of mixed (fn:=f76) (by kernel_rfl) (by kernel_rfl) fun x hp=>⟨cx76,zdq zaB trivial trivial trivial ⟨h87,trivial⟩,by kernel_rfl,by kernel_rfl,by rw [e76];exact v76 x hp⟩
theorem h75:Sx.Good prog 75 k75:=con_of mixed (fn:=f75) (by kernel_rfl) (by kernel_rfl) fun x hp=>⟨cx75,mkCx_ok zaB ⟨h95,trivial⟩ trivial trivial,by kernel_rfl,by kernel_rfl,by rw [e75];exact v75 x hp⟩
theorem h142:Sx.Good prog 142 k142:=con_of mixed (fn:=f142) (by kernel_rfl) (by kernel_rfl) fun x hp=>⟨cx142,mkCx_ok zaB trivial trivial trivial,by kernel_rfl,by kernel_rfl,by rw [e142];exact v142 x hp⟩
theorem h73:Sx.Good prog 73 k73:=con_of mixed (fn:=f73) (by kernel_rfl) (by kernel_rfl) fun x hp=>⟨cx73,mkCx_ok zaB ⟨h142,h62,trivial⟩ trivial trivial,by kernel_rfl,by kernel_rfl,by rw [e73];exact v73 x hp⟩
theorem h84:Sx.GoodN prog 84 k84:=ncon_of mixed (fn:=f84) (by kernel_rfl) (by kernel_rfl) fun x hp=>⟨cx84,mkCx_ok zaB trivial trivial trivial,by kernel_rfl,by kernel_rfl,by rw [e84];exact v84 x hp⟩
theorem h86:Sx.Good prog 86 k86:=con_of mixed (fn:=f86) (by kernel_rfl) (by kernel_rfl) fun x hp=>⟨cx86,zdq zaB ⟨h75,trivial⟩ trivial trivial ⟨h87,h84,trivial⟩,by kernel_rfl,by kernel_rfl,by rw [e86];exact v86 x hp⟩
theorem h83:Sx.Good prog 83 k83:=con_of mixed (fn:=f83) (by kernel_rfl) (by kernel_rfl) fun x hp=>⟨cx83,mkCx_ok zaB ⟨h72,h137,trivial⟩ trivial trivial,by kernel_rfl,by kernel_rfl,by rw [e83];exact v83 x hp⟩
theorem h74:Sx.Good prog 74 k74:=con_of mixed (fn:=f74) (by kernel_rfl) (by kernel_rfl) fun x hp=>⟨cx74,zdq zaB ⟨h75,trivial⟩ trivial trivial ⟨h76,trivial⟩,by kernel_rfl,by kernel_rfl,by rw [e74];exact v74 x hp⟩
theorem h22:Sx.Good prog 22 k22:=con_of mixed (fn:=f22) (by kernel_rfl) (by kernel_rfl) fun x hp=>⟨cx22,zdq zaB ⟨h72,h74,h73,h77,h78,h79,h80,trivial⟩ trivial trivial ⟨h76,trivial⟩,by kernel_rfl,by kernel_rfl,by rw [e22];exact v22 x hp⟩
theorem h30:Sx.Good prog 30 k30:=con_of mixed (fn:=f30) (by kernel_rfl) (by kernel_rfl) fun x hp=>⟨cx30,zdq zaB ⟨h83,h95,trivial⟩ trivial trivial ⟨h76,trivial⟩,by kernel_rfl,by kernel_rfl,by rw [e30];exact v30 x hp⟩
theorem h26:Sx.Good prog 26 k26:=con_of mixed (fn:=f26) (by kernel_rfl) (by kernel_rfl) fun x hp=>⟨cx26,zmJ (zbO (zdq zaB ⟨h83,h75,h85,h86,h73,trivial⟩ trivial trivial ⟨h76,h84,h87,trivial⟩)),by kernel_rfl,by kernel_rfl,by rw [e26];exact v26 x hp⟩
end Go.Tt
