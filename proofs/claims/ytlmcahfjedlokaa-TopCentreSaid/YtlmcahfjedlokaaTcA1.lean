/-
  TopCentre: the contracts.
-/
import Derived.Test.YtlmcahfjedlokaaTcMix
import Derived.Test.YtlmcahfjedlokaaTcBP
import Derived.Test.YtlmcahfjedlokaaTcP4
import Derived.Test.YtlmcahfjedlokaaSH
import Derived.Test.YtlmcahfjedlokaaRows
import Derived.ProofKit
set_option linter.all false
set_option maxRecDepth 100000
namespace Go.Tc
open Go Go.Sx
theorem tabs_ok:TabsOk Go.Proofs.Try.prog T:=by
 refine ⟨by kernel_rfl,fun p hp=>?_⟩
 cases hp
theorem tabs_ok3:TabsOk Go.Proofs.Try.prog T3:=by
 refine ⟨by kernel_rfl,fun p hp=>?_⟩
 cases hp
theorem h13:Sx.Good Go.Proofs.Try.prog 13 k13:=con_of mixed (show Go.Proofs.Try.prog.funcs[13]?=some Go.Proofs.Try.f13 from by kernel_rfl) (by kernel_rfl) fun x hp=>⟨cx13,mkCx_ok tabs_ok trivial trivial trivial,by kernel_rfl,by kernel_rfl,by rw [e13];exact v13 x hp⟩
theorem h14:Sx.Good Go.Proofs.Try.prog 14 k14:=con_of mixed (show Go.Proofs.Try.prog.funcs[14]?=some Go.Proofs.Try.f14 from by kernel_rfl) (by kernel_rfl) fun x hp=>⟨cx14,mkCx_ok tabs_ok trivial trivial trivial,by kernel_rfl,by kernel_rfl,by rw [e14];exact v14 x hp⟩
theorem h16:Sx.Good Go.Proofs.Try.prog 16 k16:=con_of mixed (show Go.Proofs.Try.prog.funcs[16]?=some Go.Proofs.Try.f16 from by kernel_rfl) (by kernel_rfl) fun x hp=>⟨cx16,mkCx_ok tabs_ok trivial trivial trivial,by kernel_rfl,by kernel_rfl,by rw [e16];exact v16 x hp⟩
theorem h32:Sx.Good Go.Proofs.Try.prog 32 k32:=con_of mixed (show Go.Proofs.Try.prog.funcs[32]?=some Go.Proofs.Try.f32 from by kernel_rfl) (by kernel_rfl) fun x hp=>⟨cx32,mkCx_ok tabs_ok trivial trivial trivial,by kernel_rfl,by kernel_rfl,by rw [e32];exact v32 x hp⟩
theorem h31:Sx.Good Go.Proofs.Try.prog 31 k31:=con_of mixed (show Go.Proofs.Try.prog.funcs[31]?=some Go.Proofs.Try.f31 from by kernel_rfl) (by kernel_rfl) fun x hp=>⟨cx31,mkCx_ok tabs_ok ⟨h16,h32,trivial⟩ trivial trivial,by kernel_rfl,by kernel_rfl,by rw [e31];exact v31 x hp⟩
theorem h46:Sx.Good Go.Proofs.Try.prog 46 k46:=con_of mixed (show Go.Proofs.Try.prog.funcs[46]?=some Go.Proofs.Try.f46 from by kernel_rfl) (by kernel_rfl) fun x hp=>⟨cx46,mkCx_ok tabs_ok trivial trivial trivial,by kernel_rfl,by kernel_rfl,by rw [e46];exact v46 x hp⟩
theorem h33:Sx.Good Go.Proofs.Try.prog 33 k33:=con_of mixed (show Go.Proofs.Try.prog.funcs[33]?=some Go.Proofs.Try.f33 from by kernel_rfl) (by kernel_rfl) fun x hp=>⟨cx33,mkCx_ok tabs_ok ⟨h46,trivial⟩ trivial trivial,by kernel_rfl,by kernel_rfl,by rw [e33];exact v33 x hp⟩
theorem h15:Sx.Good Go.Proofs.Try.prog 15 k15:=con_of mixed (show Go.Proofs.Try.prog.funcs[15]?=some Go.Proofs.Try.f15 from by kernel_rfl) (by kernel_rfl) fun x hp=>⟨cx15,mkCx_ok tabs_ok ⟨h31,h16,h32,h33,trivial⟩ trivial trivial,by kernel_rfl,by kernel_rfl,by rw [e15];exact v15 x hp⟩
theorem h17:Sx.Good Go.Proofs.Try.prog 17 k17:=con_of mixed (show Go.Proofs.Try.prog.funcs[17]?=some Go.Proofs.Try.f17 from by kernel_rfl) (by kernel_rfl) fun x hp=>⟨cx17,mkCx_ok tabs_ok trivial trivial trivial,by kernel_rfl,by kernel_rfl,by rw [e17];exact v17 x hp⟩
theorem h34:Sx.Good Go.Proofs.Try.prog 34 k34:=con_of mixed (show Go.Proofs.Try.prog.funcs[34]?=some Go.Proofs.Try.f34 from by kernel_rfl) (by kernel_rfl) fun x hp=>⟨cx34,mkCx_ok tabs_ok trivial trivial trivial,by kernel_rfl,by kernel_rfl,by rw [e34];exact v34 x hp⟩
theorem h35:Sx.Good Go.Proofs.Try.prog 35 k35:=con_of mixed (show Go.Proofs.Try.prog.funcs[35]?=some Go.Proofs.Try.f35 from by kernel_rfl) (by kernel_rfl) fun x hp=>⟨cx35,mkCx_ok tabs_ok trivial trivial trivial,by kernel_rfl,by kernel_rfl,by rw [e35];exact v35 x hp⟩
theorem h18:Sx.Good Go.Proofs.Try.prog 18 k18:=con_of mixed (show Go.Proofs.Try.prog.funcs[18]?=some Go.Proofs.Try.f18 from by kernel_rfl) (by kernel_rfl) fun x hp=>⟨cx18,mkCx_ok tabs_ok ⟨h34,h35,trivial⟩ trivial trivial,by kernel_rfl,by kernel_rfl,by rw [e18];exact v18 x hp⟩
theorem h6:Sx.Good Go.Proofs.Try.prog 6 k6:=con_of mixed (show Go.Proofs.Try.prog.funcs[6]?=some Go.Proofs.Try.f6 from by kernel_rfl) (by kernel_rfl) fun x hp=>⟨cx6,mkCx_ok tabs_ok ⟨h15,h16,h17,h18,trivial⟩ trivial trivial,by kernel_rfl,by kernel_rfl,by rw [e6];exact v6 x hp⟩
theorem h4:Sx.Good Go.Proofs.Try.prog 4 k4:=con_of mixed (show Go.Proofs.Try.prog.funcs[4]?=some Go.Proofs.Try.f4 from by kernel_rfl) (by kernel_rfl) fun x hp=>⟨cx4,mkCx_ok tabs_ok ⟨h13,h14,trivial⟩ trivial trivial,by kernel_rfl,by kernel_rfl,by rw [e4];exact v4 x hp⟩
theorem h20:Sx.Good Go.Proofs.Try.prog 20 k20:=con_of mixed (show Go.Proofs.Try.prog.funcs[20]?=some Go.Proofs.Try.f20 from by kernel_rfl) (by kernel_rfl) fun x hp=>⟨cx20,mkCx_ok tabs_ok trivial trivial trivial,by kernel_rfl,by kernel_rfl,by rw [e20];exact v20 x hp⟩
theorem h19:Sx.Good Go.Proofs.Try.prog 19 k19:=con_of mixed (show Go.Proofs.Try.prog.funcs[19]?=some Go.Proofs.Try.f19 from by kernel_rfl) (by kernel_rfl) fun x hp=>⟨cx19,mkCx_ok tabs_ok trivial trivial trivial,by kernel_rfl,by kernel_rfl,by rw [e19];exact v19 x hp⟩
theorem h8:Sx.Good Go.Proofs.Try.prog 8 k8:=con_of mixed (show Go.Proofs.Try.prog.funcs[8]?=some Go.Proofs.Try.f8 from by kernel_rfl) (by kernel_rfl) fun x hp=>⟨cx8,mkCx_ok tabs_ok ⟨h19,trivial⟩ trivial trivial,by kernel_rfl,by kernel_rfl,by rw [e8];exact v8 x hp⟩
theorem h7:Sx.Good Go.Proofs.Try.prog 7 k7:=con_of mixed (show Go.Proofs.Try.prog.funcs[7]?=some Go.Proofs.Try.f7 from by kernel_rfl) (by kernel_rfl) fun x hp=>⟨cx7,mkCx_ok tabs_ok ⟨h19,h20,trivial⟩ trivial trivial,by kernel_rfl,by kernel_rfl,by rw [e7];exact v7 x hp⟩
theorem h24:Sx.Good Go.Proofs.Try.prog 24 k24:=con_of mixed (show Go.Proofs.Try.prog.funcs[24]?=some Go.Proofs.Try.f24 from by kernel_rfl) (by kernel_rfl) fun x hp=>⟨cx24,mkCx_ok tabs_ok trivial trivial trivial,by kernel_rfl,by kernel_rfl,by rw [e24];exact v24 x hp⟩
theorem h36:Sx.Good Go.Proofs.Try.prog 36 k36:=con_of mixed (show Go.Proofs.Try.prog.funcs[36]?=some Go.Proofs.Try.f36 from by kernel_rfl) (by kernel_rfl) fun x hp=>⟨cx36,mkCx_ok tabs_ok trivial trivial trivial,by kernel_rfl,by kernel_rfl,by rw [e36];exact v36 x hp⟩
theorem h39:Sx.Good Go.Proofs.Try.prog 39 k39:=con_of mixed (show Go.Proofs.Try.prog.funcs[39]?=some Go.Proofs.Try.f39 from by kernel_rfl) (by kernel_rfl) fun x hp=>⟨cx39,mkCx_ok tabs_ok ⟨h36,trivial⟩ trivial trivial,by kernel_rfl,by kernel_rfl,by rw [e39];exact v39 x hp⟩
theorem h38:Sx.Good Go.Proofs.Try.prog 38 k38:=con_of mixed (show Go.Proofs.Try.prog.funcs[38]?=some Go.Proofs.Try.f38 from by kernel_rfl) (by kernel_rfl) fun x hp=>⟨cx38,mkCx_ok tabs_ok ⟨h39,trivial⟩ trivial trivial,by kernel_rfl,by kernel_rfl,by rw [e38];exact v38 x hp⟩
theorem h47:Sx.Good Go.Proofs.Try.prog 47 k47:=con_of mixed (show Go.Proofs.Try.prog.funcs[47]?=some Go.Proofs.Try.f47 from by kernel_rfl) (by kernel_rfl) fun x hp=>⟨cx47,mkCx_ok tabs_ok trivial trivial trivial,by kernel_rfl,by kernel_rfl,by rw [e47];exact v47 x hp⟩
theorem h37:Sx.Good Go.Proofs.Try.prog 37 k37:=con_of mixed (show Go.Proofs.Try.prog.funcs[37]?=some Go.Proofs.Try.f37 from by kernel_rfl) (by kernel_rfl) fun x hp=>⟨cx37,mkCx_ok tabs_ok ⟨h47,trivial⟩ trivial trivial,by kernel_rfl,by kernel_rfl,by rw [e37];exact v37 x hp⟩
theorem h21:Sx.Good Go.Proofs.Try.prog 21 k21:=con_of mixed (show Go.Proofs.Try.prog.funcs[21]?=some Go.Proofs.Try.f21 from by kernel_rfl) (by kernel_rfl) fun x hp=>⟨cx21,mkCx_ok tabs_ok ⟨h36,h24,h37,h38,trivial⟩ trivial trivial,by kernel_rfl,by kernel_rfl,by rw [e21];exact v21 x hp⟩
theorem h43:Sx.Good Go.Proofs.Try.prog 43 k43:=con_of mixed (show Go.Proofs.Try.prog.funcs[43]?=some Go.Proofs.Try.f43 from by kernel_rfl) (by kernel_rfl) fun x hp=>⟨cx43,mkCx_ok tabs_ok trivial trivial trivial,by kernel_rfl,by kernel_rfl,by rw [e43];exact v43 x hp⟩
theorem h42:Sx.Good Go.Proofs.Try.prog 42 k42:=con_of mixed (show Go.Proofs.Try.prog.funcs[42]?=some Go.Proofs.Try.f42 from by kernel_rfl) (by kernel_rfl) fun x hp=>⟨cx42,mkCx_ok tabs_ok trivial trivial trivial,by kernel_rfl,by kernel_rfl,by rw [e42];exact v42 x hp⟩
theorem h45:Sx.Good Go.Proofs.Try.prog 45 k45:=con_of mixed (show Go.Proofs.Try.prog.funcs[45]?=some Go.Proofs.Try.f45 from by kernel_rfl) (by kernel_rfl) fun x hp=>⟨cx45,mkCx_ok tabs_ok ⟨h43,h42,trivial⟩ trivial trivial,by kernel_rfl,by kernel_rfl,by rw [e45];exact v45 x hp⟩
theorem h44:Sx.Good Go.Proofs.Try.prog 44 k44:=con_of mixed (show Go.Proofs.Try.prog.funcs[44]?=some Go.Proofs.Try.f44 from by kernel_rfl) (by kernel_rfl) fun x hp=>⟨cx44,mkCx_ok tabs_ok trivial trivial trivial,by kernel_rfl,by kernel_rfl,by rw [e44];exact v44 x hp⟩
theorem h50:Sx.Good Go.Proofs.Try.prog 50 k50:=con_of mixed (show Go.Proofs.Try.prog.funcs[50]?=some Go.Proofs.Try.f50 from by kernel_rfl) (by kernel_rfl) fun x hp=>⟨cx50,mkCx_ok tabs_ok trivial trivial trivial,by kernel_rfl,by kernel_rfl,by rw [e50];exact v50 x hp⟩
theorem h52:Sx.Good Go.Proofs.Try.prog 52 k52:=con_of mixed (show Go.Proofs.Try.prog.funcs[52]?=some Go.Proofs.Try.f52 from by kernel_rfl) (by kernel_rfl) fun x hp=>⟨cx52,mkCx_ok tabs_ok trivial trivial trivial,by kernel_rfl,by kernel_rfl,by rw [e52];exact v52 x hp⟩
theorem h53:Sx.Good Go.Proofs.Try.prog 53 k53:=con_of mixed (show Go.Proofs.Try.prog.funcs[53]?=some Go.Proofs.Try.f53 from by kernel_rfl) (by kernel_rfl) fun x hp=>⟨cx53,mkCx_ok tabs_ok trivial trivial trivial,by kernel_rfl,by kernel_rfl,by rw [e53];exact v53 x hp⟩
theorem h49:Sx.Good Go.Proofs.Try.prog 49 k49:=con_of mixed (show Go.Proofs.Try.prog.funcs[49]?=some Go.Proofs.Try.f49 from by kernel_rfl) (by kernel_rfl) fun x hp=>⟨cx49,mkCx_ok tabs_ok ⟨h45,h43,trivial⟩ trivial trivial,by kernel_rfl,by kernel_rfl,by rw [e49];exact v49 x hp⟩
theorem h55:Sx.Good Go.Proofs.Try.prog 55 k55:=con_of mixed (show Go.Proofs.Try.prog.funcs[55]?=some Go.Proofs.Try.f55 from by kernel_rfl) (by kernel_rfl) fun x hp=>⟨cx55,mkCx_ok tabs_ok ⟨h45,h42,trivial⟩ trivial trivial,by kernel_rfl,by kernel_rfl,by rw [e55];exact v55 x hp⟩
theorem h48:Sx.Good Go.Proofs.Try.prog 48 k48:=con_of mixed (show Go.Proofs.Try.prog.funcs[48]?=some Go.Proofs.Try.f48 from by kernel_rfl) (by kernel_rfl) fun x hp=>⟨cx48,mkCx_ok tabs_ok ⟨h49,h50,h42,trivial⟩ trivial trivial,by kernel_rfl,by kernel_rfl,by rw [e48];exact v48 x hp⟩
theorem h51:Sx.Good Go.Proofs.Try.prog 51 k51:=con_of mixed (show Go.Proofs.Try.prog.funcs[51]?=some Go.Proofs.Try.f51 from by kernel_rfl) (by kernel_rfl) fun x hp=>⟨cx51,mkCx_ok tabs_ok ⟨h49,h52,h53,h42,trivial⟩ trivial trivial,by kernel_rfl,by kernel_rfl,by rw [e51];exact v51 x hp⟩
theorem h54:Sx.Good Go.Proofs.Try.prog 54 k54:=con_of mixed (show Go.Proofs.Try.prog.funcs[54]?=some Go.Proofs.Try.f54 from by kernel_rfl) (by kernel_rfl) fun x hp=>⟨cx54,mkCx_ok tabs_ok ⟨h55,trivial⟩ trivial trivial,by kernel_rfl,by kernel_rfl,by rw [e54];exact v54 x hp⟩
theorem h56:Sx.Good Go.Proofs.Try.prog 56 k56:=con_of mixed (show Go.Proofs.Try.prog.funcs[56]?=some Go.Proofs.Try.f56 from by kernel_rfl) (by kernel_rfl) fun x hp=>⟨cx56,mkCx_ok tabs_ok ⟨h55,trivial⟩ trivial trivial,by kernel_rfl,by kernel_rfl,by rw [e56];exact v56 x hp⟩
theorem h40:Sx.Good Go.Proofs.Try.prog 40 k40:=con_of mixed (show Go.Proofs.Try.prog.funcs[40]?=some Go.Proofs.Try.f40 from by kernel_rfl) (by kernel_rfl) fun x hp=>⟨cx40,mkCx_ok tabs_ok ⟨h48,h51,h54,h56,trivial⟩ trivial trivial,by kernel_rfl,by kernel_rfl,by rw [e40];exact v40 x hp⟩
theorem h22:Sx.Good Go.Proofs.Try.prog 22 k22:=con_of mixed (show Go.Proofs.Try.prog.funcs[22]?=some Go.Proofs.Try.f22 from by kernel_rfl) (by kernel_rfl) fun x hp=>⟨cx22,mkCx_ok tabs_ok ⟨h40,trivial⟩ trivial trivial,by kernel_rfl,by kernel_rfl,by rw [e22];exact v22 x hp⟩
theorem h10:Sx.Good Go.Proofs.Try.prog 10 k10:=con_of mixed (show Go.Proofs.Try.prog.funcs[10]?=some Go.Proofs.Try.f10 from by kernel_rfl) (by kernel_rfl) fun x hp=>⟨cx10,mkCx_ok tabs_ok ⟨h21,h22,trivial⟩ trivial trivial,by kernel_rfl,by kernel_rfl,by rw [e10];exact v10 x hp⟩
theorem h41:Sx.GoodI Go.Proofs.Try.prog 41 k41:=icon_of mixed (show Go.Proofs.Try.prog.funcs[41]?=some Go.Proofs.Try.f41 from by kernel_rfl) (by kernel_rfl) fun x ly hp=>⟨(cx41 ly x),300000,mkCx_ok tabs_ok ⟨h43,h42,trivial⟩ trivial trivial,by kernel_rfl,by kernel_rfl,by rw [e41];exact v41 ly x hp⟩
theorem h26:Sx.Good Go.Proofs.Try.prog 26 k26:=con_of mixed (show Go.Proofs.Try.prog.funcs[26]?=some Go.Proofs.Try.f26 from by kernel_rfl) (by kernel_rfl) fun x hp=>⟨cx26,mkCx_ok tabs_ok trivial trivial ⟨h41,trivial⟩,by kernel_rfl,by kernel_rfl,by rw [e26];exact v26 x hp⟩
theorem h30:Sx.Good Go.Proofs.Try.prog 30 k30:=con_of mixed (show Go.Proofs.Try.prog.funcs[30]?=some Go.Proofs.Try.f30 from by kernel_rfl) (by kernel_rfl) fun x hp=>⟨cx30,mkCx_ok tabs_ok ⟨h45,h43,h42,trivial⟩ trivial trivial,by kernel_rfl,by kernel_rfl,by rw [e30];exact v30 x hp⟩
theorem h12:Sx.Good Go.Proofs.Try.prog 12 k12:=con_of mixed (show Go.Proofs.Try.prog.funcs[12]?=some Go.Proofs.Try.f12 from by kernel_rfl) (by kernel_rfl) fun x hp=>⟨cx12,mkCx_ok tabs_ok ⟨h21,h24,h26,h30,trivial⟩ trivial trivial,by kernel_rfl,by kernel_rfl,by rw [e12];exact v12 x hp⟩
theorem h29:Sx.Good Go.Proofs.Try.prog 29 k29:=con_of mixed (show Go.Proofs.Try.prog.funcs[29]?=some Go.Proofs.Try.f29 from by kernel_rfl) (by kernel_rfl) fun x hp=>⟨cx29,mkCx_ok tabs_ok ⟨h44,trivial⟩ trivial trivial,by kernel_rfl,by kernel_rfl,by rw [e29];exact v29 x hp⟩
theorem h28:Sx.Good Go.Proofs.Try.prog 28 k28:=con_of mixed (show Go.Proofs.Try.prog.funcs[28]?=some Go.Proofs.Try.f28 from by kernel_rfl) (by kernel_rfl) fun x hp=>⟨cx28,mkCx_ok tabs_ok ⟨h30,h29,trivial⟩ trivial trivial,by kernel_rfl,by kernel_rfl,by rw [e28];exact v28 x hp⟩
theorem h27:Sx.Good Go.Proofs.Try.prog 27 k27:=con_of mixed (show Go.Proofs.Try.prog.funcs[27]?=some Go.Proofs.Try.f27 from by kernel_rfl) (by kernel_rfl) fun x hp=>⟨cx27,mkCx_ok tabs_ok trivial trivial trivial,by kernel_rfl,by kernel_rfl,by rw [e27];exact v27 x hp⟩
theorem h25:Sx.Good Go.Proofs.Try.prog 25 k25:=con_of mixed (show Go.Proofs.Try.prog.funcs[25]?=some Go.Proofs.Try.f25 from by kernel_rfl) (by kernel_rfl) fun x hp=>⟨cx25,mkCx_ok tabs_ok ⟨h27,trivial⟩ trivial trivial,by kernel_rfl,by kernel_rfl,by rw [e25];exact v25 x hp⟩
theorem h23:Sx.GoodL Go.Proofs.Try.prog 23 k23:=lcon_of mixed (show Go.Proofs.Try.prog.funcs[23]?=some Go.Proofs.Try.f23 from by kernel_rfl) (by kernel_rfl) fun x hp=>⟨cx23,mkCx_ok tabs_ok ⟨h24,trivial⟩ trivial trivial,by kernel_rfl,by kernel_rfl,by rw [e23];exact v23 x hp⟩
theorem q11u_38u_7:Sx.GoodQ Go.Proofs.Try.prog i11u_38u_7:=inl_of mixed (show Go.Proofs.Try.prog.funcs[27]?=some Go.Proofs.Try.f27 from by kernel_rfl) (by kernel_rfl) (mkCx_ok tabs_ok ⟨h21,h25,h22,h26,h28,h27,trivial⟩ ⟨h23,trivial⟩ trivial) rfl rfl
theorem q11u_38:Sx.GoodQ Go.Proofs.Try.prog i11u_38:=inl_of mixed (show Go.Proofs.Try.prog.funcs[25]?=some Go.Proofs.Try.f25 from by kernel_rfl) (by kernel_rfl) (withInl_ok (mkCx_ok tabs_ok ⟨h27,h21,h25,h22,h26,h28,trivial⟩ ⟨h23,trivial⟩ trivial) ⟨q11u_38u_7,trivial⟩) rfl rfl
theorem h11:Sx.Good Go.Proofs.Try.prog 11 k11:=con_of mixed (show Go.Proofs.Try.prog.funcs[11]?=some Go.Proofs.Try.f11 from by kernel_rfl) (by kernel_rfl) fun x hp=>⟨cx11,withInl_ok (withHld_ok (mkCx_ok tabs_ok ⟨h21,h25,h22,h26,h28,h27,trivial⟩ ⟨h23,trivial⟩ trivial)) ⟨q11u_38,trivial⟩,by kernel_rfl,by kernel_rfl,by rw [e11];exact v11 x hp⟩
theorem h9:Sx.GoodL Go.Proofs.Try.prog 9 k9:=lcon_of mixed (show Go.Proofs.Try.prog.funcs[9]?=some Go.Proofs.Try.f9 from by kernel_rfl) (by kernel_rfl) fun x hp=>⟨cx9,mkCx_ok tabs_ok trivial trivial trivial,by kernel_rfl,by kernel_rfl,by rw [e9];exact v9 x hp⟩
theorem h5:Sx.Good Go.Proofs.Try.prog 5 k5:=con_of mixed (show Go.Proofs.Try.prog.funcs[5]?=some Go.Proofs.Try.f5 from by kernel_rfl) (by kernel_rfl) fun x hp=>⟨cx5,mkCx_ok tabs_ok ⟨h6,h12,trivial⟩ trivial trivial,by kernel_rfl,by kernel_rfl,by rw [e5];exact v5 x hp⟩
theorem h3:Sx.Good Go.Proofs.Try.prog 3 k3:=con_of mixed (show Go.Proofs.Try.prog.funcs[3]?=some Go.Proofs.Try.f3 from by kernel_rfl) (by kernel_rfl) fun x hp=>⟨cx3,mkCx_ok tabs_ok3 ⟨h4,h5,h6,h7,h8,h10,h11,h12,trivial⟩ ⟨h9,trivial⟩ trivial,by kernel_rfl,by kernel_rfl,by rw [e3];exact v3 x hp⟩
end Go.Tc
/-
 TopCentre returns true for every input,and leaves its arguments as they were.
-/
namespace Go.Tc
open Go Go.Sx Go.Proofs.Ytlmcahfjedlokaa
theorem own:ownKnob Go.Proofs.Try.prog.godebug=none:=by kernel_rfl
theorem laid:laidOutB Go.Proofs.Try.prog=true:=by kernel_rfl
theorem heavy:T3.heavy Go.Proofs.Try.prog=true:=by kernel_rfl
theorem bool4:Go.Proofs.Try.prog.underlying 4=some .bool:=by kernel_rfl
abbrev iv (n:Int):Value:=.int .i64 n
abbrev nl:Value:=.slice none 0 0
theorem lifted (os:Os) (started:os.Started) (H:Type) (enc:TypeId × Value→H) :
  ReturnsInHanded {} Go.Proofs.Try.checked os 3 .any (Rows.topCentreSpec.pre6 enc Go.Proofs.Try.prog Go.Proofs.Try.f3 Rows.topCentreRow.domain false) (Rows.topCentreSpec.post enc Go.Proofs.Try.prog Go.Proofs.Try.f3 false true false false):=by
 refine returnsInHanded_of_change_sized (C:=Go.Proofs.Try.checked) own started (by kernel_rfl) (show Go.Proofs.Try.prog.funcs[3]?=some Go.Proofs.Try.f3 from by kernel_rfl)
  (ChangeSpec.witness6 (enc:=enc) (C:=Go.Proofs.Try.checked) false ⟨#[],#[.agg #[nl,iv 0,iv 0,iv 0],iv 0,iv 0,.agg #[iv 0,iv 0,iv 0,iv 0,iv 0,iv 0,iv 0,iv 0,iv 0,iv 0],.agg #[iv 0,iv 0,iv 0,iv 0,iv 0,iv 0,iv 0,iv 0],.agg #[iv 0,iv 0,iv 0,iv 0,iv 0,iv 0,iv 0,iv 0],nl,nl],[]⟩ 8 (by kernel_rfl) (by kernel_rfl) (by kernel_rfl) (by kernel_rfl)) ?_
 intro W base args ds gs before hval hW _ hwt _
 exact row_calls (args:=k3.args) (pre:=top_TopCentre_p) (val:=top_TopCentre) h3 (fun _ hf b hb=>hf.2.2.2.2.2.2.2.2 b hb) (fun _=>rfl) tabs_ok3 heavy laid (by kernel_rfl) (by kernel_rfl) (B:=4) (by kernel_rfl) bool4 (by kernel_rfl)
  (fun ds hd=>by
   match ds,hd with
   | [_,_,_,_,_,_,_,_],_=>rfl) hval hW hwt
theorem said:Rows.TopCentreSaid :=
 OpenClaim.holds_of_wide 3 Go.Proofs.Try.f3 rfl rfl rfl rfl rfl rfl rfl ⟨rfl,rfl,rfl,rfl,rfl⟩ rfl rfl rfl rfl rfl (by kernel_rfl) (show Go.Proofs.Try.prog.funcs[3]?=some Go.Proofs.Try.f3 from by kernel_rfl) (by kernel_rfl)
  (of_decide_eq_true (by kernel_rfl)) (by unfold Func.isWrapper;first | (rw [if_pos (by decide +kernel)];kernel_rfl) | (rw [if_neg (by decide +kernel)];exact ⟨rfl,rfl⟩))
  (fun os started H enc _=>lifted os started H enc)
end Go.Tc
namespace Go.Proofs.Ytlmcahfjedlokaa
theorem topCentre_holds:Rows.TopCentreSaid:=Go.Tc.said
end Go.Proofs.Ytlmcahfjedlokaa
