/-
  Shade: the contracts.
-/
import Derived.Test.YtdhdklojcppfcaaTtSP3
import Derived.Test.YtdhdklojcppfcaaTtKP8
set_option linter.all false
set_option maxRecDepth 100000
open Go.Proofs.Try
namespace Go.Tt
open Go Go.Sx
theorem h134:Sx.Good prog 134 k134:=con_of mixed (fn:=f134) (by kernel_rfl) (by kernel_rfl) fun x hp=>⟨cx134,mkCx_ok zba trivial trivial trivial,by kernel_rfl,by kernel_rfl,by rw [e134];exact v134 x hp⟩
theorem h68:Sx.Good prog 68 k68:=con_of mixed (fn:=f68) (by kernel_rfl) (by kernel_rfl) fun x hp=>⟨cx68,mkCx_ok zba trivial trivial trivial,by kernel_rfl,by kernel_rfl,by rw [e68];exact v68 x hp⟩
theorem h69:Sx.Good prog 69 k69:=con_of mixed (fn:=f69) (by kernel_rfl) (by kernel_rfl) fun x hp=>⟨cx69,mkCx_ok zba ⟨h134,trivial⟩ trivial trivial,by kernel_rfl,by kernel_rfl,by rw [e69];exact v69 x hp⟩
theorem h203:Sx.Good prog 203 k203:=con_of mixed (fn:=f203) (by kernel_rfl) (by kernel_rfl) fun x hp=>⟨cx203,mkCx_ok zba ⟨h68,trivial⟩ trivial trivial,by kernel_rfl,by kernel_rfl,by rw [e203];exact v203 x hp⟩
theorem h214:Sx.Good prog 214 k214:=con_of mixed (fn:=f214) (by kernel_rfl) (by kernel_rfl) fun x hp=>⟨cx214,mkCx_ok zba trivial trivial trivial,by kernel_rfl,by kernel_rfl,by rw [e214];exact v214 x hp⟩
theorem h204:Sx.Good prog 204 k204:=con_of mixed (fn:=f204) (by kernel_rfl) (by kernel_rfl) fun x hp=>⟨cx204,mkCx_ok zba ⟨h214,trivial⟩ trivial trivial,by kernel_rfl,by kernel_rfl,by rw [e204];exact v204 x hp⟩
theorem h179:Sx.Good prog 179 k179:=con_of mixed (fn:=f179) (by kernel_rfl) (by kernel_rfl) fun x hp=>⟨cx179,mkCx_ok zba ⟨h203,h68,h134,h204,trivial⟩ trivial trivial,by kernel_rfl,by kernel_rfl,by rw [e179];exact v179 x hp⟩
theorem h132:Sx.Good prog 132 k132:=con_of mixed (fn:=f132) (by kernel_rfl) (by kernel_rfl) fun x hp=>⟨cx132,mkCx_ok zba ⟨h179,trivial⟩ trivial trivial,by kernel_rfl,by kernel_rfl,by rw [e132];exact v132 x hp⟩
theorem h178:Sx.Good prog 178 k178:=con_of mixed (fn:=f178) (by kernel_rfl) (by kernel_rfl) fun x hp=>⟨cx178,mkCx_ok zba trivial trivial trivial,by kernel_rfl,by kernel_rfl,by rw [e178];exact v178 x hp⟩
theorem h131:Sx.Good prog 131 k131:=con_of mixed (fn:=f131) (by kernel_rfl) (by kernel_rfl) fun x hp=>⟨cx131,mkCx_ok zba ⟨h178,trivial⟩ trivial trivial,by kernel_rfl,by kernel_rfl,by rw [e131];exact v131 x hp⟩
theorem h259:Sx.Good prog 259 k259:=con_of mixed (fn:=f259) (by kernel_rfl) (by kernel_rfl) fun x hp=>⟨cx259,mkCx_ok zba trivial trivial trivial,by kernel_rfl,by kernel_rfl,by rw [e259];exact v259 x hp⟩
theorem h258:Sx.Good prog 258 k258:=con_of mixed (fn:=f258) (by kernel_rfl) (by kernel_rfl) fun x hp=>⟨cx258,mkCx_ok zba trivial trivial trivial,by kernel_rfl,by kernel_rfl,by rw [e258];exact v258 x hp⟩
theorem h257:Sx.Good prog 257 k257:=con_of mixed (fn:=f257) (by kernel_rfl) (by kernel_rfl) fun x hp=>⟨cx257,mkCx_ok zba trivial trivial trivial,by kernel_rfl,by kernel_rfl,by rw [e257];exact v257 x hp⟩
theorem h62:Sx.Good prog 62 k62:=con_of mixed (fn:=f62) (by kernel_rfl) (by kernel_rfl) fun x hp=>⟨cx62,mkCx_ok zba trivial trivial trivial,by kernel_rfl,by kernel_rfl,by rw [e62];exact v62 x hp⟩
theorem h256:Sx.Good prog 256 k256:=con_of mixed (fn:=f256) (by kernel_rfl) (by kernel_rfl) fun x hp=>⟨cx256,mkCx_ok zba ⟨h259,h62,trivial⟩ trivial trivial,by kernel_rfl,by kernel_rfl,by rw [e256];exact v256 x hp⟩
theorem h255:Sx.Good prog 255 k255:=con_of mixed (fn:=f255) (by kernel_rfl) (by kernel_rfl) fun x hp=>⟨cx255,mkCx_ok zba ⟨h256,h257,h258,trivial⟩ trivial trivial,by kernel_rfl,by kernel_rfl,by rw [e255];exact v255 x hp⟩
theorem h260:Sx.Good prog 260 k260:=con_of mixed (fn:=f260) (by kernel_rfl) (by kernel_rfl) fun x hp=>⟨cx260,mkCx_ok zba ⟨h257,h258,trivial⟩ trivial trivial,by kernel_rfl,by kernel_rfl,by rw [e260];exact v260 x hp⟩
theorem h133:Sx.Good prog 133 k133:=con_of mixed (fn:=f133) (by kernel_rfl) (by kernel_rfl) fun x hp=>⟨cx133,mkCx_ok zba ⟨h255,h260,trivial⟩ trivial trivial,by kernel_rfl,by kernel_rfl,by rw [e133];exact v133 x hp⟩
theorem h66:Sx.Good prog 66 k66:=con_of mixed (fn:=f66) (by kernel_rfl) (by kernel_rfl) fun x hp=>⟨cx66,mkCx_ok zba ⟨h69,h131,h132,h133,trivial⟩ trivial trivial,by kernel_rfl,by kernel_rfl,by rw [e66];exact v66 x hp⟩
theorem h15:Sx.Good prog 15 k15:=con_of mixed (fn:=f15) (by kernel_rfl) (by kernel_rfl) fun x hp=>⟨cx15,mkCx_ok zba ⟨h66,trivial⟩ trivial trivial,by kernel_rfl,by kernel_rfl,by rw [e15];exact v15 x hp⟩
end Go.Tt
/-
 Sack and the references: the contracts.
-/
namespace Go.Tt
open Go Go.Sx
theorem h125:Sx.Good prog 125 k125:=con_of mixed (fn:=f125) (by kernel_rfl) (by kernel_rfl) fun x hp=>⟨cx125,mkCx_ok zai trivial trivial trivial,by kernel_rfl,by kernel_rfl,by rw [e125];exact v125 x hp⟩
theorem h122:Sx.Good prog 122 k122:=con_of mixed (fn:=f122) (by kernel_rfl) (by kernel_rfl) fun x hp=>⟨cx122,mkCx_ok zai trivial trivial trivial,by kernel_rfl,by kernel_rfl,by rw [e122];exact v122 x hp⟩
theorem h121:Sx.Good prog 121 k121:=con_of mixed (fn:=f121) (by kernel_rfl) (by kernel_rfl) fun x hp=>⟨cx121,mkCx_ok zai ⟨h122,trivial⟩ trivial trivial,by kernel_rfl,by kernel_rfl,by rw [e121];exact v121 x hp⟩
theorem h175:Sx.Good prog 175 k175:=con_of mixed (fn:=f175) (by kernel_rfl) (by kernel_rfl) fun x hp=>⟨cx175,mkCx_ok zai trivial trivial trivial,by kernel_rfl,by kernel_rfl,by rw [e175];exact v175 x hp⟩
theorem h123:Sx.Good prog 123 k123:=con_of mixed (fn:=f123) (by kernel_rfl) (by kernel_rfl) fun x hp=>⟨cx123,mkCx_ok zai ⟨h175,trivial⟩ trivial trivial,by kernel_rfl,by kernel_rfl,by rw [e123];exact v123 x hp⟩
theorem h51:Sx.Good prog 51 k51:=con_of mixed (fn:=f51) (by kernel_rfl) (by kernel_rfl) fun x hp=>⟨cx51,mkCx_ok zai ⟨h121,h123,trivial⟩ trivial trivial,by kernel_rfl,by kernel_rfl,by rw [e51];exact v51 x hp⟩
theorem h124:Sx.Good prog 124 k124:=con_of mixed (fn:=f124) (by kernel_rfl) (by kernel_rfl) fun x hp=>⟨cx124,mkCx_ok zai ⟨h125,h122,trivial⟩ trivial trivial,by kernel_rfl,by kernel_rfl,by rw [e124];exact v124 x hp⟩
theorem h176:Sx.Good prog 176 k176:=con_of mixed (fn:=f176) (by kernel_rfl) (by kernel_rfl) fun x hp=>⟨cx176,mkCx_ok zai trivial trivial trivial,by kernel_rfl,by kernel_rfl,by rw [e176];exact v176 x hp⟩
theorem h126:Sx.Good prog 126 k126:=con_of mixed (fn:=f126) (by kernel_rfl) (by kernel_rfl) fun x hp=>⟨cx126,mkCx_ok zai ⟨h176,trivial⟩ trivial trivial,by kernel_rfl,by kernel_rfl,by rw [e126];exact v126 x hp⟩
theorem h52:Sx.Good prog 52 k52:=con_of mixed (fn:=f52) (by kernel_rfl) (by kernel_rfl) fun x hp=>⟨cx52,mkCx_ok zai ⟨h124,h125,h126,trivial⟩ trivial trivial,by kernel_rfl,by kernel_rfl,by rw [e52];exact v52 x hp⟩
theorem h127:Sx.Good prog 127 k127:=con_of mixed (fn:=f127) (by kernel_rfl) (by kernel_rfl) fun x hp=>⟨cx127,mkCx_ok zai trivial trivial trivial,by kernel_rfl,by kernel_rfl,by rw [e127];exact v127 x hp⟩
theorem h55:Sx.Good prog 55 k55:=con_of mixed (fn:=f55) (by kernel_rfl) (by kernel_rfl) fun x hp=>⟨cx55,mkCx_ok zai ⟨h127,trivial⟩ trivial trivial,by kernel_rfl,by kernel_rfl,by rw [e55];exact v55 x hp⟩
theorem h54:Sx.Good prog 54 k54:=con_of mixed (fn:=f54) (by kernel_rfl) (by kernel_rfl) fun x hp=>⟨cx54,mkCx_ok zai trivial trivial trivial,by kernel_rfl,by kernel_rfl,by rw [e54];exact v54 x hp⟩
theorem h56:Sx.Good prog 56 k56:=con_of mixed (fn:=f56) (by kernel_rfl) (by kernel_rfl) fun x hp=>⟨cx56,mkCx_ok zai ⟨h127,trivial⟩ trivial trivial,by kernel_rfl,by kernel_rfl,by rw [e56];exact v56 x hp⟩
theorem h57:Sx.Good prog 57 k57:=con_of mixed (fn:=f57) (by kernel_rfl) (by kernel_rfl) fun x hp=>⟨cx57,mkCx_ok zai ⟨h127,trivial⟩ trivial trivial,by kernel_rfl,by kernel_rfl,by rw [e57];exact v57 x hp⟩
theorem h58:Sx.Good prog 58 k58:=con_of mixed (fn:=f58) (by kernel_rfl) (by kernel_rfl) fun x hp=>⟨cx58,mkCx_ok zai ⟨h55,h57,trivial⟩ trivial trivial,by kernel_rfl,by kernel_rfl,by rw [e58];exact v58 x hp⟩
theorem h130:Sx.Good prog 130 k130:=con_of mixed (fn:=f130) (by kernel_rfl) (by kernel_rfl) fun x hp=>⟨cx130,mkCx_ok zai ⟨h55,h58,trivial⟩ trivial trivial,by kernel_rfl,by kernel_rfl,by rw [e130];exact v130 x hp⟩
theorem h129:Sx.Good prog 129 k129:=con_of mixed (fn:=f129) (by kernel_rfl) (by kernel_rfl) fun x hp=>⟨cx129,mkCx_ok zai ⟨h130,trivial⟩ trivial trivial,by kernel_rfl,by kernel_rfl,by rw [e129];exact v129 x hp⟩
theorem h202:Sx.GoodI prog 202 k202:=icon_of mixed (fn:=f202) (by kernel_rfl) (by kernel_rfl) fun x ly hp=>⟨(cx202 ly x),300000,mkCx_ok zai trivial trivial trivial,by kernel_rfl,by kernel_rfl,by rw [e202];exact v202 ly x hp⟩
theorem h177:Sx.Good prog 177 k177:=con_of mixed (fn:=f177) (by kernel_rfl) (by kernel_rfl) fun x hp=>⟨cx177,mkCx_ok zai trivial trivial ⟨h202,trivial⟩,by kernel_rfl,by kernel_rfl,by rw [e177];exact v177 x hp⟩
theorem h128:Sx.Good prog 128 k128:=con_of mixed (fn:=f128) (by kernel_rfl) (by kernel_rfl) fun x hp=>⟨cx128,mkCx_ok zai ⟨h177,trivial⟩ trivial trivial,by kernel_rfl,by kernel_rfl,by rw [e128];exact v128 x hp⟩
theorem h59:Sx.Good prog 59 k59:=con_of mixed (fn:=f59) (by kernel_rfl) (by kernel_rfl) fun x hp=>⟨cx59,mkCx_ok zai ⟨h128,trivial⟩ trivial trivial,by kernel_rfl,by kernel_rfl,by rw [e59];exact v59 x hp⟩
theorem h64:Sx.Good prog 64 k64:=con_of mixed (fn:=f64) (by kernel_rfl) (by kernel_rfl) fun x hp=>⟨cx64,mkCx_ok zai ⟨h129,h59,trivial⟩ trivial trivial,by kernel_rfl,by kernel_rfl,by rw [e64];exact v64 x hp⟩
theorem h63:Sx.Good prog 63 k63:=con_of mixed (fn:=f63) (by kernel_rfl) (by kernel_rfl) fun x hp=>⟨cx63,mkCx_ok zai ⟨h64,trivial⟩ trivial trivial,by kernel_rfl,by kernel_rfl,by rw [e63];exact v63 x hp⟩
theorem h65:Sx.Good prog 65 k65:=con_of mixed (fn:=f65) (by kernel_rfl) (by kernel_rfl) fun x hp=>⟨cx65,mkCx_ok zai ⟨h64,trivial⟩ trivial trivial,by kernel_rfl,by kernel_rfl,by rw [e65];exact v65 x hp⟩
theorem h60:Sx.Good prog 60 k60:=con_of mixed (fn:=f60) (by kernel_rfl) (by kernel_rfl) fun x hp=>⟨cx60,mkCx_ok zai trivial trivial trivial,by kernel_rfl,by kernel_rfl,by rw [e60];exact v60 x hp⟩
theorem h61:Sx.Good prog 61 k61:=con_of mixed (fn:=f61) (by kernel_rfl) (by kernel_rfl) fun x hp=>⟨cx61,mkCx_ok zai ⟨h60,trivial⟩ trivial trivial,by kernel_rfl,by kernel_rfl,by rw [e61];exact v61 x hp⟩
theorem h53:Sx.Good prog 53 k53:=con_of mixed (fn:=f53) (by kernel_rfl) (by kernel_rfl) fun x hp=>⟨cx53,mkCx_ok zai trivial trivial trivial,by kernel_rfl,by kernel_rfl,by rw [e53];exact v53 x hp⟩
theorem h13:Sx.Good prog 13 k13:=con_of mixed (fn:=f13) (by kernel_rfl) (by kernel_rfl) fun x hp=>⟨cx13,mkCx_ok zai ⟨h51,h52,h53,h54,h55,h56,h57,h58,h59,h60,h61,trivial⟩ trivial trivial,by kernel_rfl,by kernel_rfl,by rw [e13];exact v13 x hp⟩
theorem h14:Sx.Good prog 14 k14:=con_of mixed (fn:=f14) (by kernel_rfl) (by kernel_rfl) fun x hp=>⟨cx14,mkCx_ok zai ⟨h51,h52,h53,h63,h62,h65,trivial⟩ trivial trivial,by kernel_rfl,by kernel_rfl,by rw [e14];exact v14 x hp⟩
theorem h48:Sx.Good prog 48 k48:=con_of mixed (fn:=f48) (by kernel_rfl) (by kernel_rfl) fun x hp=>⟨cx48,mkCx_ok zai trivial trivial trivial,by kernel_rfl,by kernel_rfl,by rw [e48];exact v48 x hp⟩
theorem h49:Sx.Good prog 49 k49:=con_of mixed (fn:=f49) (by kernel_rfl) (by kernel_rfl) fun x hp=>⟨cx49,mkCx_ok zai trivial trivial trivial,by kernel_rfl,by kernel_rfl,by rw [e49];exact v49 x hp⟩
theorem h50:Sx.Good prog 50 k50:=con_of mixed (fn:=f50) (by kernel_rfl) (by kernel_rfl) fun x hp=>⟨cx50,mkCx_ok zai trivial trivial trivial,by kernel_rfl,by kernel_rfl,by rw [e50];exact v50 x hp⟩
theorem h9:Sx.Good prog 9 k9:=con_of mixed (fn:=f9) (by kernel_rfl) (by kernel_rfl) fun x hp=>⟨cx9,mkCx_ok zai ⟨h48,trivial⟩ trivial trivial,by kernel_rfl,by kernel_rfl,by rw [e9];exact v9 x hp⟩
theorem h10:Sx.Good prog 10 k10:=con_of mixed (fn:=f10) (by kernel_rfl) (by kernel_rfl) fun x hp=>⟨cx10,mkCx_ok zai ⟨h49,h48,trivial⟩ trivial trivial,by kernel_rfl,by kernel_rfl,by rw [e10];exact v10 x hp⟩
theorem h11:Sx.Good prog 11 k11:=con_of mixed (fn:=f11) (by kernel_rfl) (by kernel_rfl) fun x hp=>⟨cx11,mkCx_ok zai ⟨h50,trivial⟩ trivial trivial,by kernel_rfl,by kernel_rfl,by rw [e11];exact v11 x hp⟩
theorem h17:Sx.Good prog 17 k17:=con_of mixed (fn:=f17) (by kernel_rfl) (by kernel_rfl) fun x hp=>⟨cx17,mkCx_ok zai trivial trivial trivial,by kernel_rfl,by kernel_rfl,by rw [e17];exact v17 x hp⟩
theorem h18:Sx.Good prog 18 k18:=con_of mixed (fn:=f18) (by kernel_rfl) (by kernel_rfl) fun x hp=>⟨cx18,mkCx_ok zai trivial trivial trivial,by kernel_rfl,by kernel_rfl,by rw [e18];exact v18 x hp⟩
theorem h19:Sx.Good prog 19 k19:=con_of mixed (fn:=f19) (by kernel_rfl) (by kernel_rfl) fun x hp=>⟨cx19,mkCx_ok zai trivial trivial trivial,by kernel_rfl,by kernel_rfl,by rw [e19];exact v19 x hp⟩
end Go.Tt
