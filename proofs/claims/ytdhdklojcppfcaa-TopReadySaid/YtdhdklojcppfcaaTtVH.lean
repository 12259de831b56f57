/-
  Order: the contracts.
-/
import Derived.Test.YtdhdklojcppfcaaTtOP8
import Derived.Test.YtdhdklojcppfcaaTtV3
set_option linter.all false
set_option maxRecDepth 100000
open Go.Proofs.Try
namespace Go.Tt
open Go Go.Sx
theorem h155:Sx.Good prog 155 k155:=con_of mixed (fn:=f155) (by kernel_rfl) (by kernel_rfl) fun x hp=>⟨cx155,mkCx_ok tabs_ok trivial trivial trivial,by kernel_rfl,by kernel_rfl,by rw [e155];exact v155 x hp⟩
theorem h156:Sx.Good prog 156 k156:=con_of mixed (fn:=f156) (by kernel_rfl) (by kernel_rfl) fun x hp=>⟨cx156,mkCx_ok tabs_ok trivial trivial trivial,by kernel_rfl,by kernel_rfl,by rw [e156];exact v156 x hp⟩
theorem h154:Sx.Good prog 154 k154:=con_of mixed (fn:=f154) (by kernel_rfl) (by kernel_rfl) fun x hp=>⟨cx154,mkCx_ok tabs_ok ⟨h155,h156,trivial⟩ trivial trivial,by kernel_rfl,by kernel_rfl,by rw [e154];exact v154 x hp⟩
theorem h157:Sx.Good prog 157 k157:=con_of mixed (fn:=f157) (by kernel_rfl) (by kernel_rfl) fun x hp=>⟨cx157,mkCx_ok tabs_ok ⟨h155,trivial⟩ trivial trivial,by kernel_rfl,by kernel_rfl,by rw [e157];exact v157 x hp⟩
theorem h193:Sx.Good prog 193 k193:=con_of mixed (fn:=f193) (by kernel_rfl) (by kernel_rfl) fun x hp=>⟨cx193,mkCx_ok tabs_ok trivial trivial trivial,by kernel_rfl,by kernel_rfl,by rw [e193];exact v193 x hp⟩
theorem h158:Sx.Good prog 158 k158:=con_of mixed (fn:=f158) (by kernel_rfl) (by kernel_rfl) fun x hp=>⟨cx158,mkCx_ok tabs_ok ⟨h193,trivial⟩ trivial trivial,by kernel_rfl,by kernel_rfl,by rw [e158];exact v158 x hp⟩
theorem h194:Sx.Good prog 194 k194:=con_of mixed (fn:=f194) (by kernel_rfl) (by kernel_rfl) fun x hp=>⟨cx194,mkCx_ok tabs_ok trivial trivial trivial,by kernel_rfl,by kernel_rfl,by rw [e194];exact v194 x hp⟩
theorem h159:Sx.Good prog 159 k159:=con_of mixed (fn:=f159) (by kernel_rfl) (by kernel_rfl) fun x hp=>⟨cx159,mkCx_ok tabs_ok ⟨h194,trivial⟩ trivial trivial,by kernel_rfl,by kernel_rfl,by rw [e159];exact v159 x hp⟩
theorem h100:Sx.Good prog 100 k100:=con_of mixed (fn:=f100) (by kernel_rfl) (by kernel_rfl) fun x hp=>⟨cx100,mkCx_ok tabs_ok ⟨h154,h157,h158,h159,trivial⟩ trivial trivial,by kernel_rfl,by kernel_rfl,by rw [e100];exact v100 x hp⟩
theorem h251:Sx.Good prog 251 k251:=con_of mixed (fn:=f251) (by kernel_rfl) (by kernel_rfl) fun x hp=>⟨cx251,mkCx_ok tabs_ok trivial trivial trivial,by kernel_rfl,by kernel_rfl,by rw [e251];exact v251 x hp⟩
theorem h252:Sx.Good prog 252 k252:=con_of mixed (fn:=f252) (by kernel_rfl) (by kernel_rfl) fun x hp=>⟨cx252,mkCx_ok tabs_ok trivial trivial trivial,by kernel_rfl,by kernel_rfl,by rw [e252];exact v252 x hp⟩
theorem h253:Sx.Good prog 253 k253:=con_of mixed (fn:=f253) (by kernel_rfl) (by kernel_rfl) fun x hp=>⟨cx253,mkCx_ok tabs_ok trivial trivial trivial,by kernel_rfl,by kernel_rfl,by rw [e253];exact v253 x hp⟩
theorem h254:Sx.Good prog 254 k254:=con_of mixed (fn:=f254) (by kernel_rfl) (by kernel_rfl) fun x hp=>⟨cx254,mkCx_ok tabs_ok trivial trivial trivial,by kernel_rfl,by kernel_rfl,by rw [e254];exact v254 x hp⟩
theorem h101:Sx.Good prog 101 k101:=con_of mixed (fn:=f101) (by kernel_rfl) (by kernel_rfl) fun x hp=>⟨cx101,zlP (zeH (zhP (mkCx_ok tabs_ok trivial trivial trivial))),by kernel_rfl,by kernel_rfl,by rw [e101];exact v101 x hp⟩
theorem h164:Sx.Good prog 164 k164:=con_of mixed (fn:=f164) (by kernel_rfl) (by kernel_rfl) fun x hp=>⟨cx164,mkCx_ok tabs_ok trivial trivial trivial,by kernel_rfl,by kernel_rfl,by rw [e164];exact v164 x hp⟩
theorem h102:Sx.Good prog 102 k102:=con_of mixed (fn:=f102) (by kernel_rfl) (by kernel_rfl) fun x hp=>⟨cx102,mkCx_ok tabs_ok trivial trivial trivial,by kernel_rfl,by kernel_rfl,by rw [e102];exact v102 x hp⟩
theorem h165:Sx.Good prog 165 k165:=con_of mixed (fn:=f165) (by kernel_rfl) (by kernel_rfl) fun x hp=>⟨cx165,mkCx_ok tabs_ok trivial trivial trivial,by kernel_rfl,by kernel_rfl,by rw [e165];exact v165 x hp⟩
theorem h118:Sx.Good prog 118 k118:=con_of mixed (fn:=f118) (by kernel_rfl) (by kernel_rfl) fun x hp=>⟨cx118,mkCx_ok tabs_ok trivial trivial trivial,by kernel_rfl,by kernel_rfl,by rw [e118];exact v118 x hp⟩
theorem h163:Sx.Good prog 163 k163:=con_of mixed (fn:=f163) (by kernel_rfl) (by kernel_rfl) fun x hp=>⟨cx163,mkCx_ok tabs_ok trivial trivial trivial,by kernel_rfl,by kernel_rfl,by rw [e163];exact v163 x hp⟩
theorem h117:Sx.Good prog 117 k117:=con_of mixed (fn:=f117) (by kernel_rfl) (by kernel_rfl) fun x hp=>⟨cx117,mkCx_ok tabs_ok trivial trivial trivial,by kernel_rfl,by kernel_rfl,by rw [e117];exact v117 x hp⟩
theorem h107:Sx.Good prog 107 k107:=con_of mixed (fn:=f107) (by kernel_rfl) (by kernel_rfl) fun x hp=>⟨cx107,zhQ (zeH (mkCx_ok tabs_ok ⟨h102,h163,h164,h165,trivial⟩ trivial trivial)),by kernel_rfl,by kernel_rfl,by rw [e107];exact v107 x hp⟩
theorem h105:Sx.Good prog 105 k105:=con_of mixed (fn:=f105) (by kernel_rfl) (by kernel_rfl) fun x hp=>⟨cx105,mkCx_ok tabs_ok trivial trivial trivial,by kernel_rfl,by kernel_rfl,by rw [e105];exact v105 x hp⟩
theorem h162:Sx.GoodI prog 162 k162:=icon_of mixed (fn:=f162) (by kernel_rfl) (by kernel_rfl) fun x ly hp=>⟨(cx162 ly x),300000,mkCx_ok tabs_ok trivial trivial trivial,by kernel_rfl,by kernel_rfl,by rw [e162];exact v162 ly x hp⟩
theorem h106:Sx.Good prog 106 k106:=con_of mixed (fn:=f106) (by kernel_rfl) (by kernel_rfl) fun x hp=>⟨cx106,mkCx_ok tabs_ok trivial trivial ⟨h162,trivial⟩,by kernel_rfl,by kernel_rfl,by rw [e106];exact v106 x hp⟩
theorem h109:Sx.Good prog 109 k109:=con_of mixed (fn:=f109) (by kernel_rfl) (by kernel_rfl) fun x hp=>⟨cx109,mkCx_ok tabs_ok ⟨h106,h107,trivial⟩ trivial trivial,by kernel_rfl,by kernel_rfl,by rw [e109];exact v109 x hp⟩
theorem h41:Sx.Good prog 41 k41:=con_of mixed (fn:=f41) (by kernel_rfl) (by kernel_rfl) fun x hp=>⟨cx41,mkCx_ok tabs_ok ⟨h100,h251,h252,h253,h254,h101,h105,h109,trivial⟩ trivial trivial,by kernel_rfl,by kernel_rfl,by rw [e41];exact v41 x hp⟩
theorem h46:Sx.Good prog 46 k46:=con_of mixed (fn:=f46) (by kernel_rfl) (by kernel_rfl) fun x hp=>⟨cx46,mkCx_ok tabs_ok ⟨h100,h251,h252,h101,h105,h106,h102,h117,h118,h109,trivial⟩ trivial trivial,by kernel_rfl,by kernel_rfl,by rw [e46];exact v46 x hp⟩
theorem h87:Sx.GoodN prog 87 k87:=ncon_of mixed (fn:=f87) (by kernel_rfl) (by kernel_rfl) fun x hp=>⟨cx87,mkCx_ok tabs_ok trivial trivial trivial,by kernel_rfl,by kernel_rfl,by rw [e87];exact v87 x hp⟩
end Go.Tt
/-
 Coat: the contracts.
-/
namespace Go.Tt
open Go Go.Sx
theorem h110:Sx.Good prog 110 k110:=con_of mixed (fn:=f110) (by kernel_rfl) (by kernel_rfl) fun x hp=>⟨cx110,mkCx_ok zaj trivial trivial trivial,by kernel_rfl,by kernel_rfl,by rw [e110];exact v110 x hp⟩
theorem h42:Sx.Good prog 42 k42:=con_of mixed (fn:=f42) (by kernel_rfl) (by kernel_rfl) fun x hp=>⟨cx42,mkCx_ok zaj ⟨h110,trivial⟩ trivial trivial,by kernel_rfl,by kernel_rfl,by rw [e42];exact v42 x hp⟩
theorem h111:Sx.Good prog 111 k111:=con_of mixed (fn:=f111) (by kernel_rfl) (by kernel_rfl) fun x hp=>⟨cx111,mkCx_ok zaj trivial trivial trivial,by kernel_rfl,by kernel_rfl,by rw [e111];exact v111 x hp⟩
theorem h113:Sx.Good prog 113 k113:=con_of mixed (fn:=f113) (by kernel_rfl) (by kernel_rfl) fun x hp=>⟨cx113,mkCx_ok zaj trivial trivial trivial,by kernel_rfl,by kernel_rfl,by rw [e113];exact v113 x hp⟩
theorem h167:Sx.Good prog 167 k167:=con_of mixed (fn:=f167) (by kernel_rfl) (by kernel_rfl) fun x hp=>⟨cx167,mkCx_ok zaj trivial trivial trivial,by kernel_rfl,by kernel_rfl,by rw [e167];exact v167 x hp⟩
theorem h197:Sx.Good prog 197 k197:=con_of mixed (fn:=f197) (by kernel_rfl) (by kernel_rfl) fun x hp=>⟨cx197,mkCx_ok zaj trivial trivial trivial,by kernel_rfl,by kernel_rfl,by rw [e197];exact v197 x hp⟩
theorem h170:Sx.Good prog 170 k170:=con_of mixed (fn:=f170) (by kernel_rfl) (by kernel_rfl) fun x hp=>⟨cx170,mkCx_ok zaj ⟨h197,trivial⟩ trivial trivial,by kernel_rfl,by kernel_rfl,by rw [e170];exact v170 x hp⟩
theorem h169:Sx.Good prog 169 k169:=con_of mixed (fn:=f169) (by kernel_rfl) (by kernel_rfl) fun x hp=>⟨cx169,mkCx_ok zaj trivial trivial trivial,by kernel_rfl,by kernel_rfl,by rw [e169];exact v169 x hp⟩
theorem h168:Sx.Good prog 168 k168:=con_of mixed (fn:=f168) (by kernel_rfl) (by kernel_rfl) fun x hp=>⟨cx168,mkCx_ok zaj ⟨h169,h170,trivial⟩ trivial trivial,by kernel_rfl,by kernel_rfl,by rw [e168];exact v168 x hp⟩
theorem h198:Sx.Good prog 198 k198:=con_of mixed (fn:=f198) (by kernel_rfl) (by kernel_rfl) fun x hp=>⟨cx198,mkCx_ok zaj trivial trivial trivial,by kernel_rfl,by kernel_rfl,by rw [e198];exact v198 x hp⟩
theorem h171:Sx.Good prog 171 k171:=con_of mixed (fn:=f171) (by kernel_rfl) (by kernel_rfl) fun x hp=>⟨cx171,mkCx_ok zaj ⟨h198,trivial⟩ trivial trivial,by kernel_rfl,by kernel_rfl,by rw [e171];exact v171 x hp⟩
theorem h112:Sx.Good prog 112 k112:=con_of mixed (fn:=f112) (by kernel_rfl) (by kernel_rfl) fun x hp=>⟨cx112,mkCx_ok zaj ⟨h167,h168,h169,h171,h113,trivial⟩ trivial trivial,by kernel_rfl,by kernel_rfl,by rw [e112];exact v112 x hp⟩
theorem h119:Sx.Good prog 119 k119:=con_of mixed (fn:=f119) (by kernel_rfl) (by kernel_rfl) fun x hp=>⟨cx119,mkCx_ok zaj ⟨h169,trivial⟩ trivial trivial,by kernel_rfl,by kernel_rfl,by rw [e119];exact v119 x hp⟩
theorem h172:Sx.Good prog 172 k172:=con_of mixed (fn:=f172) (by kernel_rfl) (by kernel_rfl) fun x hp=>⟨cx172,mkCx_ok zaj ⟨h169,trivial⟩ trivial trivial,by kernel_rfl,by kernel_rfl,by rw [e172];exact v172 x hp⟩
theorem h174:Sx.Good prog 174 k174:=con_of mixed (fn:=f174) (by kernel_rfl) (by kernel_rfl) fun x hp=>⟨cx174,mkCx_ok zaj trivial trivial trivial,by kernel_rfl,by kernel_rfl,by rw [e174];exact v174 x hp⟩
theorem h120:Sx.GoodL prog 120 k120:=lcon_of mixed (fn:=f120) (by kernel_rfl) (by kernel_rfl) fun x hp=>⟨cx120,mkCx_ok zaj trivial trivial trivial,by kernel_rfl,by kernel_rfl,by rw [e120];exact v120 x hp⟩
theorem h213:Sx.GoodI prog 213 k213:=icon_of mixed (fn:=f213) (by kernel_rfl) (by kernel_rfl) fun x ly hp=>⟨(cx213 ly x),300000,mkCx_ok zaj trivial trivial trivial,by kernel_rfl,by kernel_rfl,by rw [e213];exact v213 ly x hp⟩
theorem h201:Sx.Good prog 201 k201:=con_of mixed (fn:=f201) (by kernel_rfl) (by kernel_rfl) fun x hp=>⟨cx201,mkCx_ok zaj trivial trivial ⟨h213,trivial⟩,by kernel_rfl,by kernel_rfl,by rw [e201];exact v201 x hp⟩
theorem h199:Sx.Good prog 199 k199:=con_of mixed (fn:=f199) (by kernel_rfl) (by kernel_rfl) fun x hp=>⟨cx199,mkCx_ok zaj trivial trivial trivial,by kernel_rfl,by kernel_rfl,by rw [e199];exact v199 x hp⟩
theorem h234:Sx.Good prog 234 k234:=con_of mixed (fn:=f234) (by kernel_rfl) (by kernel_rfl) fun x hp=>⟨cx234,mkCx_ok zaj trivial trivial trivial,by kernel_rfl,by kernel_rfl,by rw [e234];exact v234 x hp⟩
theorem h224:Sx.Good prog 224 k224:=con_of mixed (fn:=f224) (by kernel_rfl) (by kernel_rfl) fun x hp=>⟨cx224,mkCx_ok zaj ⟨h234,trivial⟩ trivial trivial,by kernel_rfl,by kernel_rfl,by rw [e224];exact v224 x hp⟩
theorem q211u_4:Sx.GoodQ prog i211u_4:=inl_of mixed (fn:=f215) (by kernel_rfl) (by kernel_rfl) (zeH (mkCx_ok zaj trivial trivial trivial)) rfl rfl
theorem h211:Sx.GoodN prog 211 k211:=ncon_of mixed (fn:=f211) (by kernel_rfl) (by kernel_rfl) fun x hp=>⟨cx211,zdQ (mkCx_ok zaj trivial trivial trivial) ⟨q211u_4,trivial⟩,by kernel_rfl,by kernel_rfl,by rw [e211];exact v211 x hp⟩
theorem h227:Sx.Good prog 227 k227:=con_of mixed (fn:=f227) (by kernel_rfl) (by kernel_rfl) fun x hp=>⟨cx227,ziA (mkCx_ok zaj trivial trivial trivial) ⟨by kernel_rfl,trivial⟩,by kernel_rfl,by kernel_rfl,by rw [e227];exact v227 x hp⟩
theorem h228:Sx.Good prog 228 k228:=con_of mixed (fn:=f228) (by kernel_rfl) (by kernel_rfl) fun x hp=>⟨cx228,ziA (mkCx_ok zaj trivial trivial trivial) ⟨by kernel_rfl,trivial⟩,by kernel_rfl,by kernel_rfl,by rw [e228];exact v228 x hp⟩
theorem h217:Sx.Good prog 217 k217:=con_of mixed (fn:=f217) (by kernel_rfl) (by kernel_rfl) fun x hp=>⟨cx217,ziA (mkCx_ok zaj ⟨h227,h228,trivial⟩ trivial trivial) ⟨by kernel_rfl,trivial⟩,by kernel_rfl,by kernel_rfl,by rw [e217];exact v217 x hp⟩
theorem zff:Sx.GoodQ prog zdo:=inl_of mixed (fn:=f218) (by kernel_rfl) (by kernel_rfl) (mkCx_ok zaj ⟨h224,trivial⟩ trivial trivial) rfl rfl
theorem zhb:Sx.GoodQ prog zez:=inl_of mixed (fn:=f216) (by kernel_rfl) (by kernel_rfl) (zdQ (mkCx_ok zaj ⟨h224,trivial⟩ trivial trivial) ⟨zff,trivial⟩) rfl rfl
theorem zkD:Sx.GoodQ prog zho:=inl_of mixed (fn:=f212) (by kernel_rfl) (by kernel_rfl) (zdQ (mkCx_ok zaj ⟨h217,trivial⟩ trivial trivial) ⟨zhb,trivial⟩) rfl rfl
theorem znO:Sx.GoodQ prog zlv:=inl_of mixed (fn:=f200) (by kernel_rfl) (by kernel_rfl) (zdQ (zlm zaj trivial trivial trivial ⟨h211,trivial⟩) ⟨zkD,trivial⟩) rfl rfl
theorem h173:Sx.Good prog 173 k173:=con_of mixed (fn:=f173) (by kernel_rfl) (by kernel_rfl) fun x hp=>⟨cx173,zdQ (mkCx_ok zaj ⟨h199,h201,trivial⟩ trivial trivial) ⟨znO,trivial⟩,by kernel_rfl,by kernel_rfl,by rw [e173];exact v173 x hp⟩
theorem h116:Sx.GoodL prog 116 k116:=lcon_of mixed (fn:=f116) (by kernel_rfl) (by kernel_rfl) fun x hp=>⟨cx116,mkCx_ok zaj ⟨h172,h173,h174,trivial⟩ ⟨h120,trivial⟩ trivial,by kernel_rfl,by kernel_rfl,by rw [e116];exact v116 x hp⟩
theorem h115:Sx.Good prog 115 k115:=con_of mixed (fn:=f115) (by kernel_rfl) (by kernel_rfl) fun x hp=>⟨cx115,mkCx_ok zaj trivial trivial trivial,by kernel_rfl,by kernel_rfl,by rw [e115];exact v115 x hp⟩
theorem h45:Sx.Good prog 45 k45:=con_of mixed (fn:=f45) (by kernel_rfl) (by kernel_rfl) fun x hp=>⟨cx45,mkCx_ok zaj ⟨h112,h113,trivial⟩ ⟨h116,trivial⟩ trivial,by kernel_rfl,by kernel_rfl,by rw [e45];exact v45 x hp⟩
theorem h47:Sx.Good prog 47 k47:=con_of mixed (fn:=f47) (by kernel_rfl) (by kernel_rfl) fun x hp=>⟨cx47,mkCx_ok zaj ⟨h45,h119,trivial⟩ ⟨h120,trivial⟩ trivial,by kernel_rfl,by kernel_rfl,by rw [e47];exact v47 x hp⟩
theorem h114:Sx.GoodL prog 114 k114:=znV m114 mixed (fn:=f114) (by kernel_rfl) (by kernel_rfl) fun x hp own=>⟨(cx114 x),zlm zaj ⟨h115,trivial⟩ ⟨h116,own,trivial⟩ trivial ⟨h87,trivial⟩,by kernel_rfl,by kernel_rfl,by rw [e114];exact v114 x hp⟩
theorem h44:Sx.Good prog 44 k44:=con_of mixed (fn:=f44) (by kernel_rfl) (by kernel_rfl) fun x hp=>⟨cx44,zhQ (znE (mkCx_ok zaj ⟨h112,h113,trivial⟩ ⟨h114,trivial⟩ trivial)),by kernel_rfl,by kernel_rfl,by rw [e44];exact v44 x hp⟩
end Go.Tt
