/-
  Box and recall: the contracts.
-/
import Derived.Test.YtdhdklojcppfcaaDoorTdP5
import Derived.Test.YtdhdklojcppfcaaDoorTdK39
import Derived.Test.YtdhdklojcppfcaaDoorSH
import Derived.Test.YtdhdklojcppfcaaDoorCards
import Derived.Test.YtdhdklojcppfcaaDoorTie
import Derived.WalkKit
import Derived.ProofKit
import Derived.OpenShut
import Derived.Deep.DeepHandedRow
import Derived.Lib.LaidTab
set_option linter.all false
set_option maxRecDepth 100000
namespace Go.Td
open Go Go.Sx
theorem tabs_ok:TabsOk Go.Proofs.Tryd.prog T:=⟨by kernel_rfl,maps_ok⟩
theorem h30:Sx.Good Go.Proofs.Tryd.prog 30 k30:=con_of mixed (show Go.Proofs.Tryd.prog.funcs[30]?=some Go.Proofs.Tryd.f30 from by kernel_rfl) (by kernel_rfl) fun x hp=>⟨cx30,mkCx_ok tabs_ok trivial trivial trivial,by kernel_rfl,by kernel_rfl,by rw [e30];exact v30 x hp⟩
theorem h41:Sx.Good Go.Proofs.Tryd.prog 41 k41:=con_of mixed (show Go.Proofs.Tryd.prog.funcs[41]?=some Go.Proofs.Tryd.f41 from by kernel_rfl) (by kernel_rfl) fun x hp=>⟨cx41,mkCx_ok tabs_ok ⟨h30,trivial⟩ trivial trivial,by kernel_rfl,by kernel_rfl,by rw [e41];exact v41 x hp⟩
theorem h42:Sx.Good Go.Proofs.Tryd.prog 42 k42:=con_of mixed (show Go.Proofs.Tryd.prog.funcs[42]?=some Go.Proofs.Tryd.f42 from by kernel_rfl) (by kernel_rfl) fun x hp=>⟨cx42,mkCx_ok tabs_ok ⟨h30,trivial⟩ trivial trivial,by kernel_rfl,by kernel_rfl,by rw [e42];exact v42 x hp⟩
theorem h49:Sx.Good Go.Proofs.Tryd.prog 49 k49:=con_of mixed (show Go.Proofs.Tryd.prog.funcs[49]?=some Go.Proofs.Tryd.f49 from by kernel_rfl) (by kernel_rfl) fun x hp=>⟨cx49,mkCx_ok tabs_ok trivial trivial trivial,by kernel_rfl,by kernel_rfl,by rw [e49];exact v49 x hp⟩
theorem h37:Sx.Good Go.Proofs.Tryd.prog 37 k37:=con_of mixed (show Go.Proofs.Tryd.prog.funcs[37]?=some Go.Proofs.Tryd.f37 from by kernel_rfl) (by kernel_rfl) fun x hp=>⟨cx37,mkCx_ok tabs_ok ⟨h49,trivial⟩ trivial trivial,by kernel_rfl,by kernel_rfl,by rw [e37];exact v37 x hp⟩
theorem h50:Sx.Good Go.Proofs.Tryd.prog 50 k50:=con_of mixed (show Go.Proofs.Tryd.prog.funcs[50]?=some Go.Proofs.Tryd.f50 from by kernel_rfl) (by kernel_rfl) fun x hp=>⟨cx50,mkCx_ok tabs_ok trivial trivial trivial,by kernel_rfl,by kernel_rfl,by rw [e50];exact v50 x hp⟩
theorem h43:Sx.Good Go.Proofs.Tryd.prog 43 k43:=con_of mixed (show Go.Proofs.Tryd.prog.funcs[43]?=some Go.Proofs.Tryd.f43 from by kernel_rfl) (by kernel_rfl) fun x hp=>⟨cx43,mkCx_ok tabs_ok ⟨h50,trivial⟩ trivial trivial,by kernel_rfl,by kernel_rfl,by rw [e43];exact v43 x hp⟩
theorem h44:Sx.Good Go.Proofs.Tryd.prog 44 k44:=con_of mixed (show Go.Proofs.Tryd.prog.funcs[44]?=some Go.Proofs.Tryd.f44 from by kernel_rfl) (by kernel_rfl) fun x hp=>⟨cx44,mkCx_ok tabs_ok trivial trivial trivial,by kernel_rfl,by kernel_rfl,by rw [e44];exact v44 x hp⟩
theorem h29:Sx.Good Go.Proofs.Tryd.prog 29 k29:=con_of mixed (show Go.Proofs.Tryd.prog.funcs[29]?=some Go.Proofs.Tryd.f29 from by kernel_rfl) (by kernel_rfl) fun x hp=>⟨cx29,mkCx_ok tabs_ok ⟨h41,h42,h30,h37,h43,h44,trivial⟩ trivial trivial,by kernel_rfl,by kernel_rfl,by rw [e29];exact v29 x hp⟩
theorem h17:Sx.Good Go.Proofs.Tryd.prog 17 k17:=con_of mixed (show Go.Proofs.Tryd.prog.funcs[17]?=some Go.Proofs.Tryd.f17 from by kernel_rfl) (by kernel_rfl) fun x hp=>⟨cx17,mkCx_ok tabs_ok trivial trivial trivial,by kernel_rfl,by kernel_rfl,by rw [e17];exact v17 x hp⟩
theorem h51:Sx.Good Go.Proofs.Tryd.prog 51 k51:=con_of mixed (show Go.Proofs.Tryd.prog.funcs[51]?=some Go.Proofs.Tryd.f51 from by kernel_rfl) (by kernel_rfl) fun x hp=>⟨cx51,mkCx_ok tabs_ok ⟨h17,trivial⟩ trivial trivial,by kernel_rfl,by kernel_rfl,by rw [e51];exact v51 x hp⟩
theorem h55:Sx.Good Go.Proofs.Tryd.prog 55 k55:=con_of mixed (show Go.Proofs.Tryd.prog.funcs[55]?=some Go.Proofs.Tryd.f55 from by kernel_rfl) (by kernel_rfl) fun x hp=>⟨cx55,mkCx_ok tabs_ok trivial trivial trivial,by kernel_rfl,by kernel_rfl,by rw [e55];exact v55 x hp⟩
theorem h54:Sx.GoodI Go.Proofs.Tryd.prog 54 k54:=icon_of mixed (show Go.Proofs.Tryd.prog.funcs[54]?=some Go.Proofs.Tryd.f54 from by kernel_rfl) (by kernel_rfl) fun x ly hp=>⟨(cx54 ly x),300000,mkCx_ok tabs_ok trivial trivial trivial,by kernel_rfl,by kernel_rfl,by rw [e54];exact v54 ly x hp⟩
theorem h48:Sx.Good Go.Proofs.Tryd.prog 48 k48:=con_of mixed (show Go.Proofs.Tryd.prog.funcs[48]?=some Go.Proofs.Tryd.f48 from by kernel_rfl) (by kernel_rfl) fun x hp=>⟨cx48,mkCx_ok tabs_ok trivial trivial ⟨h54,trivial⟩,by kernel_rfl,by kernel_rfl,by rw [e48];exact v48 x hp⟩
theorem h45:Sx.Good Go.Proofs.Tryd.prog 45 k45:=con_of mixed (show Go.Proofs.Tryd.prog.funcs[45]?=some Go.Proofs.Tryd.f45 from by kernel_rfl) (by kernel_rfl) fun x hp=>⟨cx45,mkCx_ok tabs_ok trivial trivial trivial,by kernel_rfl,by kernel_rfl,by rw [e45];exact v45 x hp⟩
theorem h52:Sx.Good Go.Proofs.Tryd.prog 52 k52:=con_of mixed (show Go.Proofs.Tryd.prog.funcs[52]?=some Go.Proofs.Tryd.f52 from by kernel_rfl) (by kernel_rfl) fun x hp=>⟨cx52,mkCx_ok tabs_ok ⟨h55,trivial⟩ trivial trivial,by kernel_rfl,by kernel_rfl,by rw [e52];exact v52 x hp⟩
theorem q47u_4:Sx.GoodQ Go.Proofs.Tryd.prog i47u_4:=inl_of mixed (show Go.Proofs.Tryd.prog.funcs[53]?=some Go.Proofs.Tryd.f53 from by kernel_rfl) (by kernel_rfl) (withHld_ok (mkCx_ok tabs_ok trivial trivial trivial)) rfl rfl
theorem h47:Sx.Good Go.Proofs.Tryd.prog 47 k47:=con_of mixed (show Go.Proofs.Tryd.prog.funcs[47]?=some Go.Proofs.Tryd.f47 from by kernel_rfl) (by kernel_rfl) fun x hp=>⟨cx47,withInl_ok (mkCx_ok tabs_ok trivial trivial trivial) ⟨q47u_4,trivial⟩,by kernel_rfl,by kernel_rfl,by rw [e47];exact v47 x hp⟩
theorem h46:Sx.Good Go.Proofs.Tryd.prog 46 k46:=con_of mixed (show Go.Proofs.Tryd.prog.funcs[46]?=some Go.Proofs.Tryd.f46 from by kernel_rfl) (by kernel_rfl) fun x hp=>⟨cx46,mkCx_ok tabs_ok ⟨h51,h52,trivial⟩ trivial trivial,by kernel_rfl,by kernel_rfl,by rw [e46];exact v46 x hp⟩
theorem h31:Sx.Good Go.Proofs.Tryd.prog 31 k31:=con_of mixed (show Go.Proofs.Tryd.prog.funcs[31]?=some Go.Proofs.Tryd.f31 from by kernel_rfl) (by kernel_rfl) fun x hp=>⟨cx31,mkCx_ok tabs_ok ⟨h45,h48,h47,h46,trivial⟩ trivial trivial,by kernel_rfl,by kernel_rfl,by rw [e31];exact v31 x hp⟩
theorem h19:Sx.GoodN Go.Proofs.Tryd.prog 19 k19:=ncon_of mixed (show Go.Proofs.Tryd.prog.funcs[19]?=some Go.Proofs.Tryd.f19 from by kernel_rfl) (by kernel_rfl) fun x hp=>⟨cx19,mkCx_ok tabs_ok trivial trivial trivial,by kernel_rfl,by kernel_rfl,by rw [e19];exact v19 x hp⟩
theorem h14:Sx.GoodN Go.Proofs.Tryd.prog 14 k14:=ncon_of mixed (show Go.Proofs.Tryd.prog.funcs[14]?=some Go.Proofs.Tryd.f14 from by kernel_rfl) (by kernel_rfl) fun x hp=>⟨cx14,mkCxN_ok tabs_ok trivial trivial trivial ⟨h19,trivial⟩,by kernel_rfl,by kernel_rfl,by rw [e14];exact v14 x hp⟩
theorem h15:Sx.Good Go.Proofs.Tryd.prog 15 k15:=con_of mixed (show Go.Proofs.Tryd.prog.funcs[15]?=some Go.Proofs.Tryd.f15 from by kernel_rfl) (by kernel_rfl) fun x hp=>⟨cx15,mkCx_ok tabs_ok ⟨h31,trivial⟩ trivial trivial,by kernel_rfl,by kernel_rfl,by rw [e15];exact v15 x hp⟩
theorem h33:Sx.Good Go.Proofs.Tryd.prog 33 k33:=con_of mixed (show Go.Proofs.Tryd.prog.funcs[33]?=some Go.Proofs.Tryd.f33 from by kernel_rfl) (by kernel_rfl) fun x hp=>⟨cx33,mkCx_ok tabs_ok trivial trivial trivial,by kernel_rfl,by kernel_rfl,by rw [e33];exact v33 x hp⟩
theorem h32:Sx.Good Go.Proofs.Tryd.prog 32 k32:=con_of mixed (show Go.Proofs.Tryd.prog.funcs[32]?=some Go.Proofs.Tryd.f32 from by kernel_rfl) (by kernel_rfl) fun x hp=>⟨cx32,mkCx_ok tabs_ok trivial trivial trivial,by kernel_rfl,by kernel_rfl,by rw [e32];exact v32 x hp⟩
theorem h20:Sx.Good Go.Proofs.Tryd.prog 20 k20:=con_of mixed (show Go.Proofs.Tryd.prog.funcs[20]?=some Go.Proofs.Tryd.f20 from by kernel_rfl) (by kernel_rfl) fun x hp=>⟨cx20,mkCx_ok tabs_ok ⟨h33,h32,trivial⟩ trivial trivial,by kernel_rfl,by kernel_rfl,by rw [e20];exact v20 x hp⟩
theorem h16:Sx.GoodN Go.Proofs.Tryd.prog 16 k16:=ncon_of mixed (show Go.Proofs.Tryd.prog.funcs[16]?=some Go.Proofs.Tryd.f16 from by kernel_rfl) (by kernel_rfl) fun x hp=>⟨cx16,mkCx_ok tabs_ok trivial trivial trivial,by kernel_rfl,by kernel_rfl,by rw [e16];exact v16 x hp⟩
theorem h18:Sx.Good Go.Proofs.Tryd.prog 18 k18:=con_of mixed (show Go.Proofs.Tryd.prog.funcs[18]?=some Go.Proofs.Tryd.f18 from by kernel_rfl) (by kernel_rfl) fun x hp=>⟨cx18,mkCxN_ok tabs_ok ⟨h15,trivial⟩ trivial trivial ⟨h19,h16,trivial⟩,by kernel_rfl,by kernel_rfl,by rw [e18];exact v18 x hp⟩
theorem h13:Sx.Good Go.Proofs.Tryd.prog 13 k13:=con_of mixed (show Go.Proofs.Tryd.prog.funcs[13]?=some Go.Proofs.Tryd.f13 from by kernel_rfl) (by kernel_rfl) fun x hp=>⟨cx13,mkCx_ok tabs_ok ⟨h29,h30,trivial⟩ trivial trivial,by kernel_rfl,by kernel_rfl,by rw [e13];exact v13 x hp⟩
theorem h6:Sx.Good Go.Proofs.Tryd.prog 6 k6:=con_of mixed (show Go.Proofs.Tryd.prog.funcs[6]?=some Go.Proofs.Tryd.f6 from by kernel_rfl) (by kernel_rfl) fun x hp=>⟨cx6,withR_ok (withHld_ok (mkCxN_ok tabs_ok ⟨h13,h15,h17,h18,h20,trivial⟩ trivial trivial ⟨h14,h16,h19,trivial⟩)),by kernel_rfl,by kernel_rfl,by rw [e6];exact v6 x hp⟩
theorem h10:Sx.Good Go.Proofs.Tryd.prog 10 k10:=con_of mixed (show Go.Proofs.Tryd.prog.funcs[10]?=some Go.Proofs.Tryd.f10 from by kernel_rfl) (by kernel_rfl) fun x hp=>⟨cx10,mkCx_ok tabs_ok trivial trivial trivial,by kernel_rfl,by kernel_rfl,by rw [e10];exact v10 x hp⟩
theorem h11:Sx.Good Go.Proofs.Tryd.prog 11 k11:=con_of mixed (show Go.Proofs.Tryd.prog.funcs[11]?=some Go.Proofs.Tryd.f11 from by kernel_rfl) (by kernel_rfl) fun x hp=>⟨cx11,mkCx_ok tabs_ok trivial trivial trivial,by kernel_rfl,by kernel_rfl,by rw [e11];exact v11 x hp⟩
theorem h4:Sx.Good Go.Proofs.Tryd.prog 4 k4:=con_of mixed (show Go.Proofs.Tryd.prog.funcs[4]?=some Go.Proofs.Tryd.f4 from by kernel_rfl) (by kernel_rfl) fun x hp=>⟨cx4,mkCx_ok tabs_ok ⟨h10,h11,trivial⟩ trivial trivial,by kernel_rfl,by kernel_rfl,by rw [e4];exact v4 x hp⟩
theorem h34:Sx.Good Go.Proofs.Tryd.prog 34 k34:=con_of mixed (show Go.Proofs.Tryd.prog.funcs[34]?=some Go.Proofs.Tryd.f34 from by kernel_rfl) (by kernel_rfl) fun x hp=>⟨cx34,mkCx_ok tabs_ok trivial trivial trivial,by kernel_rfl,by kernel_rfl,by rw [e34];exact v34 x hp⟩
theorem h35:Sx.Good Go.Proofs.Tryd.prog 35 k35:=con_of mixed (show Go.Proofs.Tryd.prog.funcs[35]?=some Go.Proofs.Tryd.f35 from by kernel_rfl) (by kernel_rfl) fun x hp=>⟨cx35,mkCx_ok tabs_ok ⟨h34,trivial⟩ trivial trivial,by kernel_rfl,by kernel_rfl,by rw [e35];exact v35 x hp⟩
theorem h36:Sx.Good Go.Proofs.Tryd.prog 36 k36:=con_of mixed (show Go.Proofs.Tryd.prog.funcs[36]?=some Go.Proofs.Tryd.f36 from by kernel_rfl) (by kernel_rfl) fun x hp=>⟨cx36,mkCx_ok tabs_ok ⟨h34,trivial⟩ trivial trivial,by kernel_rfl,by kernel_rfl,by rw [e36];exact v36 x hp⟩
theorem h25:Sx.Good Go.Proofs.Tryd.prog 25 k25:=con_of mixed (show Go.Proofs.Tryd.prog.funcs[25]?=some Go.Proofs.Tryd.f25 from by kernel_rfl) (by kernel_rfl) fun x hp=>⟨cx25,mkCx_ok tabs_ok trivial trivial trivial,by kernel_rfl,by kernel_rfl,by rw [e25];exact v25 x hp⟩
theorem h38:Sx.GoodI Go.Proofs.Tryd.prog 38 k38:=icon_of mixed (show Go.Proofs.Tryd.prog.funcs[38]?=some Go.Proofs.Tryd.f38 from by kernel_rfl) (by kernel_rfl) fun x ly hp=>⟨(cx38 ly x),300000,mkCx_ok tabs_ok ⟨h39,trivial⟩ trivial trivial,by kernel_rfl,by kernel_rfl,by rw [e38];exact v38 ly x hp⟩
theorem h27:Sx.Good Go.Proofs.Tryd.prog 27 k27:=con_of mixed (show Go.Proofs.Tryd.prog.funcs[27]?=some Go.Proofs.Tryd.f27 from by kernel_rfl) (by kernel_rfl) fun x hp=>⟨cx27,mkCx_ok tabs_ok trivial trivial ⟨h38,trivial⟩,by kernel_rfl,by kernel_rfl,by rw [e27];exact v27 x hp⟩
theorem h71:Sx.Good Go.Proofs.Tryd.prog 71 k71:=con_of mixed (show Go.Proofs.Tryd.prog.funcs[71]?=some Go.Proofs.Tryd.f71 from by kernel_rfl) (by kernel_rfl) fun x hp=>⟨cx71,mkCx_ok tabs_ok trivial trivial trivial,by kernel_rfl,by kernel_rfl,by rw [e71];exact v71 x hp⟩
theorem h73:Sx.Good Go.Proofs.Tryd.prog 73 k73:=con_of mixed (show Go.Proofs.Tryd.prog.funcs[73]?=some Go.Proofs.Tryd.f73 from by kernel_rfl) (by kernel_rfl) fun x hp=>⟨cx73,mkCx_ok tabs_ok trivial trivial trivial,by kernel_rfl,by kernel_rfl,by rw [e73];exact v73 x hp⟩
theorem h26:Sx.Good Go.Proofs.Tryd.prog 26 k26:=con_of mixed (show Go.Proofs.Tryd.prog.funcs[26]?=some Go.Proofs.Tryd.f26 from by kernel_rfl) (by kernel_rfl) fun x hp=>⟨cx26,mkCx_ok tabs_ok ⟨h27,h25,trivial⟩ trivial trivial,by kernel_rfl,by kernel_rfl,by rw [e26];exact v26 x hp⟩
theorem h40:Sx.GoodL Go.Proofs.Tryd.prog 40 k40:=lcon_rec m40 mixed (show Go.Proofs.Tryd.prog.funcs[40]?=some Go.Proofs.Tryd.f40 from by kernel_rfl) (by kernel_rfl) fun x hp own=>⟨(cx40 x),mkCx_ok tabs_ok ⟨h25,h27,trivial⟩ ⟨own,trivial⟩ trivial,by kernel_rfl,by kernel_rfl,by rw [e40];exact v40 x hp⟩
theorem h28:Sx.Good Go.Proofs.Tryd.prog 28 k28:=con_of mixed (show Go.Proofs.Tryd.prog.funcs[28]?=some Go.Proofs.Tryd.f28 from by kernel_rfl) (by kernel_rfl) fun x hp=>⟨cx28,mkCx_ok tabs_ok trivial ⟨h40,trivial⟩ trivial,by kernel_rfl,by kernel_rfl,by rw [e28];exact v28 x hp⟩
theorem h24:Sx.Good Go.Proofs.Tryd.prog 24 k24:=con_of mixed (show Go.Proofs.Tryd.prog.funcs[24]?=some Go.Proofs.Tryd.f24 from by kernel_rfl) (by kernel_rfl) fun x hp=>⟨cx24,mkCx_ok tabs_ok ⟨h27,h71,h28,trivial⟩ trivial trivial,by kernel_rfl,by kernel_rfl,by rw [e24];exact v24 x hp⟩
theorem h23:Sx.Good Go.Proofs.Tryd.prog 23 k23:=con_of mixed (show Go.Proofs.Tryd.prog.funcs[23]?=some Go.Proofs.Tryd.f23 from by kernel_rfl) (by kernel_rfl) fun x hp=>⟨cx23,mkCx_ok tabs_ok ⟨h35,h36,h37,trivial⟩ trivial trivial,by kernel_rfl,by kernel_rfl,by rw [e23];exact v23 x hp⟩
theorem h22:Sx.Good Go.Proofs.Tryd.prog 22 k22:=con_of mixed (show Go.Proofs.Tryd.prog.funcs[22]?=some Go.Proofs.Tryd.f22 from by kernel_rfl) (by kernel_rfl) fun x hp=>⟨cx22,mkCx_ok tabs_ok ⟨h71,trivial⟩ trivial trivial,by kernel_rfl,by kernel_rfl,by rw [e22];exact v22 x hp⟩
theorem q7u_9:Sx.GoodQ Go.Proofs.Tryd.prog i7u_9:=inl_of mixed (show Go.Proofs.Tryd.prog.funcs[21]?=some Go.Proofs.Tryd.f21 from by kernel_rfl) (by kernel_rfl) (mkCx_ok tabs_ok ⟨h23,h34,h28,h22,trivial⟩ trivial trivial) rfl rfl
theorem h7:Sx.Good Go.Proofs.Tryd.prog 7 k7:=con_of mixed (show Go.Proofs.Tryd.prog.funcs[7]?=some Go.Proofs.Tryd.f7 from by kernel_rfl) (by kernel_rfl) fun x hp=>⟨cx7,withInl_ok (mkCx_ok tabs_ok ⟨h22,trivial⟩ trivial trivial) ⟨q7u_9,trivial⟩,by kernel_rfl,by kernel_rfl,by rw [e7];exact v7 x hp⟩
theorem h8:Sx.Good Go.Proofs.Tryd.prog 8 k8:=con_of mixed (show Go.Proofs.Tryd.prog.funcs[8]?=some Go.Proofs.Tryd.f8 from by kernel_rfl) (by kernel_rfl) fun x hp=>⟨cx8,mkCx_ok tabs_ok ⟨h23,h24,trivial⟩ trivial trivial,by kernel_rfl,by kernel_rfl,by rw [e8];exact v8 x hp⟩
theorem h9:Sx.Good Go.Proofs.Tryd.prog 9 k9:=con_of mixed (show Go.Proofs.Tryd.prog.funcs[9]?=some Go.Proofs.Tryd.f9 from by kernel_rfl) (by kernel_rfl) fun x hp=>⟨cx9,mkCx_ok tabs_ok ⟨h8,h25,h26,h27,h73,h28,trivial⟩ trivial trivial,by kernel_rfl,by kernel_rfl,by rw [e9];exact v9 x hp⟩
theorem h12:Sx.Good Go.Proofs.Tryd.prog 12 k12:=con_of mixed (show Go.Proofs.Tryd.prog.funcs[12]?=some Go.Proofs.Tryd.f12 from by kernel_rfl) (by kernel_rfl) fun x hp=>⟨cx12,mkCx_ok tabs_ok trivial trivial trivial,by kernel_rfl,by kernel_rfl,by rw [e12];exact v12 x hp⟩
theorem h5:Sx.Good Go.Proofs.Tryd.prog 5 k5:=con_of mixed (show Go.Proofs.Tryd.prog.funcs[5]?=some Go.Proofs.Tryd.f5 from by kernel_rfl) (by kernel_rfl) fun x hp=>⟨cx5,mkCx_ok tabs_ok ⟨h6,h7,h12,trivial⟩ trivial trivial,by kernel_rfl,by kernel_rfl,by rw [e5];exact v5 x hp⟩
theorem h3:Sx.Good Go.Proofs.Tryd.prog 3 k3:=con_of mixed (show Go.Proofs.Tryd.prog.funcs[3]?=some Go.Proofs.Tryd.f3 from by kernel_rfl) (by kernel_rfl) fun x hp=>⟨cx3,mkCx_ok tabs_ok ⟨h4,h5,h6,h7,h8,h9,trivial⟩ trivial trivial,by kernel_rfl,by kernel_rfl,by rw [e3];exact v3 x hp⟩
end Go.Td
/-
 TopTrace returns true for every input,and leaves its arguments as they were: where the one package variable that is read lies as the program's text lays it;and the card that ties it to the text.
-/
namespace Go.Td
open Go Go.Sx Go.Proofs.YtdhdklojcppfcaaDoor
theorem fnc3:Go.Proofs.Tryd.prog.funcs[3]?=some Go.Proofs.Tryd.f3:=by kernel_rfl
theorem own:ownKnob Go.Proofs.Tryd.prog.godebug=none:=by kernel_rfl
theorem laid:laidOutB Go.Proofs.Tryd.prog=true:=by kernel_rfl
theorem heavy:T.heavy Go.Proofs.Tryd.prog=true:=by kernel_rfl
theorem bool4:Go.Proofs.Tryd.prog.underlying 4=some .bool:=by kernel_rfl
theorem gTab:Go.Proofs.Tryd.prog.globalNamed "math/bits.deBruijn32tab" = some 0:=by kernel_rfl
theorem gTabType:(Go.Proofs.Tryd.prog.globals[0]?).map (·.type)=some 96:=by kernel_rfl
theorem cells96:Go.Proofs.Tryd.prog.cellsOf 96=32:=by kernel_rfl
theorem cells5:Go.Proofs.Tryd.prog.cellsOf 5=1:=by kernel_rfl
abbrev tabL:List Int:=[0,1,28,2,29,14,24,3,30,22,20,15,25,17,4,8,31,27,13,23,21,19,16,7,26,12,18,6,11,5,10,9]
theorem table {W:World} (h:laidMetH Go.Proofs.Tryd.prog Rows.topTraceRow.laid W):Lib.TabIs Go.Proofs.Tryd.prog W "math/bits.deBruijn32tab" .u8 tabL :=
 Lib.tabIs_of_head (rest:=[]) gTab gTabType u96 u5 cells5 cells96 h
theorem lay_of {W:World} (h:laidMetH Go.Proofs.Tryd.prog Rows.topTraceRow.laid W):Lay W:=by
 have ht:=table h
 have h0:=ht.cell gTab 0 (by decide)
 have e0:tab0=tabL.map fun n=>Value.int .u8 n:=rfl
 cases ho:W.heap[0]? with
 | none=>simp [World.cell?,ho] at h0
 | some o =>
  cases o with
  | cells c e z =>
   refine ⟨(Array.getElem?_eq_some_iff.1 ho).1,c,e,z,ho,fun j v hj=>?_⟩
   rw [e0,List.getElem?_map,Option.map_eq_some_iff] at hj
   obtain ⟨n,hn,rfl⟩:=hj
   obtain ⟨hlt,hn'⟩:=List.getElem?_eq_some_iff.1 hn
   have hc:=ht.cell gTab j hlt
   have hd:tabL.getD j 0=n:=by rw [List.getD_eq_getElem?_getD,hn];rfl
   rw [hd] at hc
   simpa [World.cell?,ho] using hc
  | _=>simp [World.cell?,ho] at h0
noncomputable def laidWorld (os:Os):World :=
 {World.holding Go.Proofs.Tryd.prog os ⟨#[],#[],[]⟩ with heap:=(World.holding Go.Proofs.Tryd.prog os ⟨#[],#[],[]⟩).heap.modify 0 fun
   | .cells _ t frozen=>.cells (tabL.map fun n=>Value.int .u8 n).toArray t frozen
   | o=>o }
abbrev wit:Array Value:=#[.slice none 0 0,.slice none 0 0,.int .i64 0,.int .u8 0,.int .u8 0]
theorem laid_met (os:Os):laidMet Go.Proofs.Tryd.prog Rows.topTraceRow.laid ((laidWorld os).forCall (fun _ _=>0) ⟨#[],wit,[]⟩).memory :=
 laidMet_of_run' 8 (by kernel_rfl) (by kernel_rfl)
theorem reads (os:Os) {H:Type} (enc:TypeId × Value->H):∃ places,DataW.whole enc Go.Proofs.Tryd.prog ((laidWorld os).forCall (fun _ _=>0) ⟨#[],wit,[]⟩).memory Go.Proofs.Tryd.f3.params.toList Rows.topTraceSpec.vars false wit.toList 8=some ([.nil,.nil,.lit (.int .i64 0),.lit (.int .u8 0),.lit (.int .u8 0)],[],places) :=
 ⟨[],by kernel_rfl⟩
theorem lifted (os:Os) (started:os.Started) (H:Type) (enc:TypeId × Value->H) (F:Stop.Interp) :
  ReturnsInHanded {} Go.Proofs.Tryd.checked os 3 .any ((OpenSpec.ofChange Rows.topTraceSpec).preRow enc Go.Proofs.Tryd.prog Go.Proofs.Tryd.f3 Rows.topTraceRow.domain false Rows.topTraceRow.laid) (((OpenSpec.ofChange Rows.topTraceSpec).at F).post enc Go.Proofs.Tryd.prog Go.Proofs.Tryd.f3 false true false false):=by
 obtain ⟨places,hx⟩:=reads os enc
 refine returnsInHanded_of_row (C:=Go.Proofs.Tryd.checked) (s:=OpenSpec.ofChange Rows.topTraceSpec) own started (by kernel_rfl) fnc3
  (witness_row_at (enc:=enc) (C:=Go.Proofs.Tryd.checked) false (laidWorld os) wit rfl (by kernel_rfl) (by kernel_rfl) (by kernel_rfl)
   (OpenSpec.preRow_of_cond 8 hx (by kernel_rfl) (fun k hk=>by cases hk) (by kernel_rfl) (laid_met os))) ?_
 intro W base args ds gs before hval hW _ _ hwt hL _ _
 exact row_calls (args:=k3.args) (pre:=top_TopTrace_p) (val:=zbm) h3 (fun _ hf=>⟨hf.2.2.2.1,hf.2.2.2.2⟩) (fun _=>rfl) tabs_ok heavy laid (by kernel_rfl) (by kernel_rfl) (B:=4) (by kernel_rfl) bool4 (by kernel_rfl)
  (fun ds hd=>by
   match ds,hd with
   | [_,_,_,_,_],_=>rfl) hval hW hwt (lay_of hL)
theorem said:Rows.TopTraceSaid :=
 OpenClaim.holds_of_cond 3 Go.Proofs.Tryd.f3 rfl rfl rfl rfl rfl rfl rfl ⟨rfl,rfl,rfl,rfl,rfl⟩ rfl rfl rfl rfl rfl (by kernel_rfl) fnc3 (by kernel_rfl)
  (of_decide_eq_true (by kernel_rfl)) (by unfold Func.isWrapper;first | (rw [if_pos (by decide +kernel)];kernel_rfl) | (rw [if_neg (by decide +kernel)];exact ⟨rfl,rfl⟩))
  (fun os started H enc _ F=>by rw [OpenClaim.pre_eq_preRow];exact lifted os started H enc F)
theorem plain (f:FuncId) (fn:Func) (hf:Tryd.pinned.checked.prog.funcNamed "pencilworks/pencilworkstop.TopTrace" = some f) (hfn:Tryd.pinned.checked.prog.funcs[f]?=some fn) :
  false=Tryd.pinned.checked.prog.looks []∧∀ (j:Nat) t,fn.params[j]?=some t->Tryd.pinned.checked.prog.wantsStandIn t=false:=by
 obtain rfl:f=3:=Option.some.inj ((show Go.Proofs.Tryd.prog.funcNamed "pencilworks/pencilworkstop.TopTrace" = some 3 by kernel_rfl).symm.trans hf) |>.symm
 obtain rfl:fn=Go.Proofs.Tryd.f3:=(Option.some.inj (fnc3.symm.trans hfn)).symm
 refine ⟨by kernel_rfl,fun j t ht=>?_⟩
 have hp:Go.Proofs.Tryd.f3.params=#[22,23,3,5,5]:=by kernel_rfl
 rw [hp] at ht
 have hm:=Array.mem_of_getElem? ht
 simp only [List.mem_toArray,List.mem_cons,List.not_mem_nil,or_false] at hm
 have all:∀ t,t=22∨t=23∨t=3∨t=5->Go.Proofs.Tryd.prog.wantsStandIn t=false:=by
  intro t ht
  rcases ht with h | h | h | h
  ·rw [h];exact (show Go.Proofs.Tryd.prog.wantsStandIn 22=false by kernel_rfl)
  ·rw [h];exact (show Go.Proofs.Tryd.prog.wantsStandIn 23=false by kernel_rfl)
  ·rw [h];exact (show Go.Proofs.Tryd.prog.wantsStandIn 3=false by kernel_rfl)
  ·rw [h];exact (show Go.Proofs.Tryd.prog.wantsStandIn 5=false by kernel_rfl)
 rcases hm with h | h | h | h | h
 ·exact all t (.inl h)
 ·exact all t (.inr (.inl h))
 ·exact all t (.inr (.inr (.inl h)))
 ·exact all t (.inr (.inr (.inr h)))
 ·exact all t (.inr (.inr (.inr h)))
theorem card:Rows.TopTraceCardSaid :=
 Claim7.holds_tied_plain_at .later [] _ _ _ _ said (fun _ h=>by cases h) (by kernel_rfl) (fun _ h=>by cases h) topTrace_row_tie rfl ⟨rfl,rfl⟩ (by kernel_rfl) rfl plain (by kernel_rfl)
end Go.Td
namespace Go.Proofs.YtdhdklojcppfcaaDoor
theorem topTrace_holds:Rows.TopTraceCardSaid:=Go.Td.card
end Go.Proofs.YtdhdklojcppfcaaDoor
