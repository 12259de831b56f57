/-
  Order: the contracts.
-/
import Derived.Test.YtdhdklojcppfcaaTtOP8
set_option linter.all false
set_option maxRecDepth 100000
open Go.Proofs.Try
namespace Go.Tt
open Go Go.Sx
theorem h155:Sx.Good prog 155 k155:=con_of mixed (fn:=f155) (by kernel_rfl) (by kernel_rfl) fun x hp=>⟨cx155,mkCx_ok tabs_ok trivial trivial trivial,by kernel_rfl,by kernel_rfl,by rw [e155];exact v155 x hp⟩
theorem h156:Sx.Good prog 156 k156:=con_of mixed (fn:=f156) (by kernel_rfl) (by kernel_rfl) fun x hp=>⟨cx156,mkCx_ok tabs_ok trivial trivial trivial,by kernel_rfl,by kernel_rfl,by rw [e156];exact v156 x hp⟩
theorem h154:Sx.Good prog 154 k154:=con_of mixed (fn:=f154) (by kernel_rfl) (by kernel_rfl) fun x hp=>⟨cx154,mkCx_ok tabs_ok ⟨h155,h156,trivial⟩ trivial trivial,by kernel_rfl,by kernel_rfl,by rw [e154];exact v154 x hp⟩
theorem h157:Sx.Good prog 157 k157:=con_of mixed (fn:=f157) (by kernel_rfl) (by kernel_rfl) fun x hp=>⟨cx157,mkCx_ok tabs_ok ⟨h155,trivial⟩ trivial trivial,by kernel_rfl,by kernel_rfl,by rw [e157];exact v157 x hp⟩
theorem h193:Sx.Good prog 193 k193:=con_of mixed (fn:=f193) (by kernel_rfl) (by kernel_rfl) fun x hp=>⟨cx193,mkCx_ok tabs_ok trivial trivial trivial,by kernel_rfl,by kernel_rfl,by rw [e193];exact v193 x hp⟩
theorem h158:Sx.Good prog 158 k158:=con_of mixed (fn:=f158) (by kernel_rfl) (by kernel_rfl) fun x hp=>⟨cx158,mkCx_ok tabs_ok ⟨h193,trivial⟩ trivial trivial,by kernel_rfl,by kernel_rfl,by rw [e158];exact v158 x hp⟩
theorem h194:Sx.Good prog 194 k194:=con_of mixed (fn:=f194) (by kernel_rfl) (by kernel_rfl) fun x hp=>⟨cx194,mkCx_ok tabs_ok trivial trivial trivial,by kernel_rfl,by kernel_rfl,by rw [e194];exact v194 x hp⟩
theorem h159:Sx.Good prog 159 k159:=con_of mixed (fn:=f159) (by kernel_rfl) (by kernel_rfl) fun x hp=>⟨cx159,mkCx_ok tabs_ok ⟨h194,trivial⟩ trivial trivial,by kernel_rfl,by kernel_rfl,by rw [e159];exact v159 x hp⟩
theorem h100:Sx.Good prog 100 k100:=con_of mixed (fn:=f100) (by kernel_rfl) (by kernel_rfl) fun x hp=>⟨cx100,mkCx_ok tabs_ok ⟨h154,h157,h158,h159,trivial⟩ trivial trivial,by kernel_rfl,by kernel_rfl,by rw [e100];exact v100 x hp⟩
theorem h251:Sx.Good prog 251 k251:=con_of mixed (fn:=f251) (by kernel_rfl) (by kernel_rfl) fun x hp=>⟨cx251,mkCx_ok tabs_ok trivial trivial trivial,by kernel_rfl,by kernel_rfl,by rw [e251];exact v251 x hp⟩
theorem h252:Sx.Good prog 252 k252:=con_of mixed (fn:=f252) (by kernel_rfl) (by kernel_rfl) fun x hp=>⟨cx252,mkCx_ok tabs_ok trivial trivial trivial,by kernel_rfl,by kernel_rfl,by rw [e252];exact v252 x hp⟩
theorem h253:Sx.Good prog 253 k253:=con_of mixed (fn:=f253) (by kernel_rfl) (by kernel_rfl) fun x hp=>⟨cx253,mkCx_ok tabs_ok trivial trivial trivial,by kernel_rfl,by kernel_rfl,by rw [e253];exact v253 x hp⟩
theorem h254:Sx.Good prog 254 k254:=con_of mixed (fn:=f254) (by kernel_rfl) (by kernel_rfl) fun x hp=>⟨cx254,mkCx_ok tabs_ok trivial trivial trivial,by kernel_rfl,by kernel_rfl,by rw [e254];exact v254 x hp⟩
theorem h101:Sx.Good prog 101 k101:=con_of mixed (fn:=f101) (by kernel_rfl) (by kernel_rfl) fun x hp=>⟨cx101,zeh (zbO (zgA (mkCx_ok tabs_ok trivial trivial trivial))),by kernel_rfl,by kernel_rfl,by rw [e101];exact v101 x hp⟩
theorem h164:Sx.Good prog 164 k164:=con_of mixed (fn:=f164) (by kernel_rfl) (by kernel_rfl) fun x hp=>⟨cx164,mkCx_ok tabs_ok trivial trivial trivial,by kernel_rfl,by kernel_rfl,by rw [e164];exact v164 x hp⟩
theorem h102:Sx.Good prog 102 k102:=con_of mixed (fn:=f102) (by kernel_rfl) (by kernel_rfl) fun x hp=>⟨cx102,mkCx_ok tabs_ok trivial trivial trivial,by kernel_rfl,by kernel_rfl,by rw [e102];exact v102 x hp⟩
theorem h165:Sx.Good prog 165 k165:=con_of mixed (fn:=f165) (by kernel_rfl) (by kernel_rfl) fun x hp=>⟨cx165,mkCx_ok tabs_ok trivial trivial trivial,by kernel_rfl,by kernel_rfl,by rw [e165];exact v165 x hp⟩
theorem h163:Sx.Good prog 163 k163:=con_of mixed (fn:=f163) (by kernel_rfl) (by kernel_rfl) fun x hp=>⟨cx163,mkCx_ok tabs_ok trivial trivial trivial,by kernel_rfl,by kernel_rfl,by rw [e163];exact v163 x hp⟩
theorem h107:Sx.Good prog 107 k107:=con_of mixed (fn:=f107) (by kernel_rfl) (by kernel_rfl) fun x hp=>⟨cx107,znC (zbO (mkCx_ok tabs_ok ⟨h102,h163,h164,h165,trivial⟩ trivial trivial)),by kernel_rfl,by kernel_rfl,by rw [e107];exact v107 x hp⟩
theorem h105:Sx.Good prog 105 k105:=con_of mixed (fn:=f105) (by kernel_rfl) (by kernel_rfl) fun x hp=>⟨cx105,mkCx_ok tabs_ok trivial trivial trivial,by kernel_rfl,by kernel_rfl,by rw [e105];exact v105 x hp⟩
theorem h162:Sx.GoodI prog 162 k162:=icon_of mixed (fn:=f162) (by kernel_rfl) (by kernel_rfl) fun x ly hp=>⟨(cx162 ly x),300000,mkCx_ok tabs_ok trivial trivial trivial,by kernel_rfl,by kernel_rfl,by rw [e162];exact v162 ly x hp⟩
theorem h106:Sx.Good prog 106 k106:=con_of mixed (fn:=f106) (by kernel_rfl) (by kernel_rfl) fun x hp=>⟨cx106,mkCx_ok tabs_ok trivial trivial ⟨h162,trivial⟩,by kernel_rfl,by kernel_rfl,by rw [e106];exact v106 x hp⟩
theorem h109:Sx.Good prog 109 k109:=con_of mixed (fn:=f109) (by kernel_rfl) (by kernel_rfl) fun x hp=>⟨cx109,mkCx_ok tabs_ok ⟨h106,h107,trivial⟩ trivial trivial,by kernel_rfl,by kernel_rfl,by rw [e109];exact v109 x hp⟩
theorem h210:Sx.Good prog 210 k210:=con_of mixed (fn:=f210) (by kernel_rfl) (by kernel_rfl) fun x hp=>⟨cx210,mkCx_ok tabs_ok trivial trivial trivial,by kernel_rfl,by kernel_rfl,by rw [e210];exact v210 x hp⟩
theorem h209:Sx.Good prog 209 k209:=con_of mixed (fn:=f209) (by kernel_rfl) (by kernel_rfl) fun x hp=>⟨cx209,mkCx_ok tabs_ok trivial trivial trivial,by kernel_rfl,by kernel_rfl,by rw [e209];exact v209 x hp⟩
theorem h196:Sx.Good prog 196 k196:=con_of mixed (fn:=f196) (by kernel_rfl) (by kernel_rfl) fun x hp=>⟨cx196,mkCx_ok tabs_ok ⟨h209,h210,trivial⟩ trivial trivial,by kernel_rfl,by kernel_rfl,by rw [e196];exact v196 x hp⟩
theorem h166:Sx.Good prog 166 k166:=con_of mixed (fn:=f166) (by kernel_rfl) (by kernel_rfl) fun x hp=>⟨cx166,mkCx_ok tabs_ok ⟨h196,trivial⟩ trivial trivial,by kernel_rfl,by kernel_rfl,by rw [e166];exact v166 x hp⟩
theorem h108:Sx.Good prog 108 k108:=con_of mixed (fn:=f108) (by kernel_rfl) (by kernel_rfl) fun x hp=>⟨cx108,mkCx_ok tabs_ok ⟨h166,trivial⟩ trivial trivial,by kernel_rfl,by kernel_rfl,by rw [e108];exact v108 x hp⟩
theorem h41:Sx.Good prog 41 k41:=con_of mixed (fn:=f41) (by kernel_rfl) (by kernel_rfl) fun x hp=>⟨cx41,mkCx_ok tabs_ok ⟨h100,h251,h252,h253,h254,h101,h105,h109,trivial⟩ trivial trivial,by kernel_rfl,by kernel_rfl,by rw [e41];exact v41 x hp⟩
theorem h39:Sx.Good prog 39 k39:=con_of mixed (fn:=f39) (by kernel_rfl) (by kernel_rfl) fun x hp=>⟨cx39,mkCx_ok tabs_ok ⟨h100,h251,h252,h101,h105,h106,h107,h108,trivial⟩ trivial trivial,by kernel_rfl,by kernel_rfl,by rw [e39];exact v39 x hp⟩
theorem h161:Sx.Good prog 161 k161:=con_of mixed (fn:=f161) (by kernel_rfl) (by kernel_rfl) fun x hp=>⟨cx161,mkCx_ok tabs_ok trivial trivial trivial,by kernel_rfl,by kernel_rfl,by rw [e161];exact v161 x hp⟩
theorem h208:Sx.Good prog 208 k208:=con_of mixed (fn:=f208) (by kernel_rfl) (by kernel_rfl) fun x hp=>⟨cx208,mkCx_ok tabs_ok trivial trivial trivial,by kernel_rfl,by kernel_rfl,by rw [e208];exact v208 x hp⟩
theorem h195:Sx.GoodL prog 195 k195:=zpQ m195 mixed (fn:=f195) (by kernel_rfl) (by kernel_rfl) fun x hp own=>⟨(cx195 x),mkCx_ok tabs_ok ⟨h102,h208,trivial⟩ ⟨own,trivial⟩ trivial,by kernel_rfl,by kernel_rfl,by rw [e195];exact v195 x hp⟩
theorem h160:Sx.GoodL prog 160 k160:=lcon_of mixed (fn:=f160) (by kernel_rfl) (by kernel_rfl) fun x hp=>⟨cx160,mkCx_ok tabs_ok ⟨h161,trivial⟩ ⟨h195,trivial⟩ trivial,by kernel_rfl,by kernel_rfl,by rw [e160];exact v160 x hp⟩
theorem h104:Sx.Good prog 104 k104:=con_of mixed (fn:=f104) (by kernel_rfl) (by kernel_rfl) fun x hp=>⟨cx104,mkCx_ok tabs_ok ⟨h161,trivial⟩ trivial trivial,by kernel_rfl,by kernel_rfl,by rw [e104];exact v104 x hp⟩
theorem h87:Sx.GoodN prog 87 k87:=ncon_of mixed (fn:=f87) (by kernel_rfl) (by kernel_rfl) fun x hp=>⟨cx87,mkCx_ok tabs_ok trivial trivial trivial,by kernel_rfl,by kernel_rfl,by rw [e87];exact v87 x hp⟩
theorem h103:Sx.Good prog 103 k103:=con_of mixed (fn:=f103) (by kernel_rfl) (by kernel_rfl) fun x hp=>⟨cx103,zeh (zbO (zdq tabs_ok trivial ⟨h160,trivial⟩ trivial ⟨h87,trivial⟩)),by kernel_rfl,by kernel_rfl,by rw [e103];exact v103 x hp⟩
theorem q38u_19:Sx.GoodQ prog i38u_19:=inl_of mixed (fn:=f101) (by kernel_rfl) (by kernel_rfl) (zeh (zbO (zgA (mkCx_ok tabs_ok trivial trivial trivial)))) rfl rfl
theorem q38u_64:Sx.GoodQ prog i38u_64:=inl_of mixed (fn:=f103) (by kernel_rfl) (by kernel_rfl) (zeh (zbO (zdq tabs_ok trivial ⟨h160,trivial⟩ trivial ⟨h87,trivial⟩))) rfl rfl
theorem q38u_96:Sx.GoodQ prog i38u_96:=inl_of mixed (fn:=f103) (by kernel_rfl) (by kernel_rfl) (zeh (zbO (zdq tabs_ok trivial ⟨h160,trivial⟩ trivial ⟨h87,trivial⟩))) rfl rfl
theorem h38:Sx.Good prog 38 k38:=con_of mixed (fn:=f38) (by kernel_rfl) (by kernel_rfl) fun x hp=>⟨cx38,zji (zmJ (zox (znE (znD (zbO (mkCx_ok tabs_ok ⟨h100,h251,h252,h101,h102,h103,h104,trivial⟩ trivial trivial)))))) ⟨q38u_19,q38u_64,q38u_96,trivial⟩,by kernel_rfl,by kernel_rfl,by rw [e38];exact v38 x hp⟩
end Go.Tt
