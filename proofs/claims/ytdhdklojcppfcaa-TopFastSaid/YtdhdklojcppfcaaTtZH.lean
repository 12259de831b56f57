/-
  Fade: the contracts.
-/
import Derived.Test.YtdhdklojcppfcaaTtZP5
import Derived.Test.YtdhdklojcppfcaaTtZK1
import Derived.Test.YtdhdklojcppfcaaTtZT6
set_option linter.all false
set_option maxRecDepth 100000
open Go.Proofs.Try
namespace Go.Fade
open Go Go.Sx
theorem h147:Sx.GoodT prog 147 278:=⟨zdT fnc49 rfl rfl,htry⟩
theorem h92:Sx.Good prog 92 k92:=con_of mixed (fn:=f92) (by kernel_rfl) (by kernel_rfl) fun x hp=>⟨cx92,mkCx_ok tabs_ok trivial trivial trivial,by kernel_rfl,by kernel_rfl,by rw [e92];exact v92 x hp⟩
theorem h183:Sx.Good prog 183 k183:=con_of mixed (fn:=f183) (by kernel_rfl) (by kernel_rfl) fun x hp=>⟨cx183,mkCx_ok tabs_ok trivial trivial trivial,by kernel_rfl,by kernel_rfl,by rw [e183];exact v183 x hp⟩
theorem h186:Sx.Good prog 186 k186:=con_of mixed (fn:=f186) (by kernel_rfl) (by kernel_rfl) fun x hp=>⟨cx186,zjf (mkCx_ok tabs_ok ⟨h92,trivial⟩ trivial trivial),by kernel_rfl,by kernel_rfl,by rw [e186];exact v186 x hp⟩
theorem h93:Sx.Good prog 93 k93:=con_of mixed (fn:=f93) (by kernel_rfl) (by kernel_rfl) fun x hp=>⟨cx93,mkCx_ok tabs_ok trivial trivial trivial,by kernel_rfl,by kernel_rfl,by rw [e93];exact v93 x hp⟩
theorem h191:Sx.Good prog 191 k191:=con_of mixed (fn:=f191) (by kernel_rfl) (by kernel_rfl) fun x hp=>⟨cx191,mkCx_ok tabs_ok ⟨h93,trivial⟩ trivial trivial,by kernel_rfl,by kernel_rfl,by rw [e191];exact v191 x hp⟩
theorem h182:Sx.Good prog 182 k182:=con_of mixed (fn:=f182) (by kernel_rfl) (by kernel_rfl) fun x hp=>⟨cx182,mkCx_ok tabs_ok ⟨h183,trivial⟩ trivial trivial,by kernel_rfl,by kernel_rfl,by rw [e182];exact v182 x hp⟩
theorem h184:Sx.Good prog 184 k184:=con_of mixed (fn:=f184) (by kernel_rfl) (by kernel_rfl) fun x hp=>⟨cx184,mkCx_ok tabs_ok ⟨h183,trivial⟩ trivial trivial,by kernel_rfl,by kernel_rfl,by rw [e184];exact v184 x hp⟩
theorem h185:Sx.Good prog 185 k185:=con_of mixed (fn:=f185) (by kernel_rfl) (by kernel_rfl) fun x hp=>⟨cx185,mkCx_ok tabs_ok ⟨h92,h186,trivial⟩ trivial trivial,by kernel_rfl,by kernel_rfl,by rw [e185];exact v185 x hp⟩
theorem h197:Sx.Good prog 197 k197:=con_of mixed (fn:=f197) (by kernel_rfl) (by kernel_rfl) fun x hp=>⟨cx197,mkCx_ok tabs_ok trivial trivial trivial,by kernel_rfl,by kernel_rfl,by rw [e197];exact v197 x hp⟩
theorem h205:Sx.Good prog 205 k205:=con_of mixed (fn:=f205) (by kernel_rfl) (by kernel_rfl) fun x hp=>⟨cx205,mkCx_ok tabs_ok trivial trivial trivial,by kernel_rfl,by kernel_rfl,by rw [e205];exact v205 x hp⟩
theorem h170:Sx.Good prog 170 k170:=con_of mixed (fn:=f170) (by kernel_rfl) (by kernel_rfl) fun x hp=>⟨cx170,mkCx_ok tabs_ok ⟨h197,trivial⟩ trivial trivial,by kernel_rfl,by kernel_rfl,by rw [e170];exact v170 x hp⟩
theorem h187:Sx.Good prog 187 k187:=con_of mixed (fn:=f187) (by kernel_rfl) (by kernel_rfl) fun x hp=>⟨cx187,mkCx_ok tabs_ok ⟨h205,trivial⟩ trivial trivial,by kernel_rfl,by kernel_rfl,by rw [e187];exact v187 x hp⟩
theorem h145:Sx.Good prog 145 k145:=con_of mixed (fn:=f145) (by kernel_rfl) (by kernel_rfl) fun x hp=>⟨cx145,mkCx_ok tabs_ok ⟨h182,h184,h185,h92,h170,h187,trivial⟩ trivial trivial,by kernel_rfl,by kernel_rfl,by rw [e145];exact v145 x hp⟩
theorem h94:Sx.Good prog 94 k94:=con_of mixed (fn:=f94) (by kernel_rfl) (by kernel_rfl) fun x hp=>⟨cx94,mkCx_ok tabs_ok trivial trivial trivial,by kernel_rfl,by kernel_rfl,by rw [e94];exact v94 x hp⟩
theorem h206:Sx.Good prog 206 k206:=con_of mixed (fn:=f206) (by kernel_rfl) (by kernel_rfl) fun x hp=>⟨cx206,mkCx_ok tabs_ok trivial trivial trivial,by kernel_rfl,by kernel_rfl,by rw [e206];exact v206 x hp⟩
theorem h207:Sx.Good prog 207 k207:=con_of mixed (fn:=f207) (by kernel_rfl) (by kernel_rfl) fun x hp=>⟨cx207,mkCx_ok tabs_ok trivial trivial trivial,by kernel_rfl,by kernel_rfl,by rw [e207];exact v207 x hp⟩
theorem h190:Sx.Good prog 190 k190:=con_of mixed (fn:=f190) (by kernel_rfl) (by kernel_rfl) fun x hp=>⟨cx190,mkCx_ok tabs_ok ⟨h206,h207,trivial⟩ trivial trivial,by kernel_rfl,by kernel_rfl,by rw [e190];exact v190 x hp⟩
theorem h146:Sx.GoodN prog 146 k146:=ncon_of mixed (fn:=f146) (by kernel_rfl) (by kernel_rfl) fun x hp=>⟨cx146,mkCx_ok tabs_ok trivial trivial trivial,by kernel_rfl,by kernel_rfl,by rw [e146];exact v146 x hp⟩
theorem h151:Sx.GoodX prog 151 k151:=xcon_of mixed (fn:=f151) (by kernel_rfl) (by kernel_rfl) fun x hp=>⟨cx151,mkCx_ok tabs_ok trivial trivial trivial,by kernel_rfl,by kernel_rfl,by rw [e151];exact v151 x hp⟩
theorem h149:Sx.GoodX prog 149 k149:=xcon_of mixed (fn:=f149) (by kernel_rfl) (by kernel_rfl) fun x hp=>⟨cx149,zjg (mkCx_ok tabs_ok ⟨h93,trivial⟩ trivial trivial) ⟨h151,trivial⟩ trivial,by kernel_rfl,by kernel_rfl,by rw [e149];exact v149 x hp⟩
theorem h189:Sx.GoodI prog 189 k189:=icon_of mixed (fn:=f189) (by kernel_rfl) (by kernel_rfl) fun x ly hp=>⟨(cx189 ly x),300000,mkCx_ok tabs_ok ⟨h190,h191,trivial⟩ trivial trivial,by kernel_rfl,by kernel_rfl,by rw [e189];exact v189 ly x hp⟩
theorem h150:Sx.Good prog 150 k150:=con_of mixed (fn:=f150) (by kernel_rfl) (by kernel_rfl) fun x hp=>⟨cx150,mkCx_ok tabs_ok trivial trivial ⟨h189,trivial⟩,by kernel_rfl,by kernel_rfl,by rw [e150];exact v150 x hp⟩
theorem h148:Sx.GoodX prog 148 k148:=xcon_of mixed (fn:=f148) (by kernel_rfl) (by kernel_rfl) fun x hp=>⟨cx148,zjg (mkCx_ok tabs_ok ⟨h150,trivial⟩ trivial trivial) ⟨h149,h151,trivial⟩ trivial,by kernel_rfl,by kernel_rfl,by rw [e148];exact v148 x hp⟩
theorem h91:Sx.Good prog 91 k91:=con_of mixed (fn:=f91) (by kernel_rfl) (by kernel_rfl) fun x hp=>⟨cx91,zjg (zee tabs_ok ⟨h145,trivial⟩ trivial trivial ⟨h146,trivial⟩) ⟨h148,trivial⟩ ⟨h147,trivial⟩,by kernel_rfl,by kernel_rfl,by rw [e91];exact v91 x hp⟩
theorem h29:Sx.Good prog 29 k29:=con_of mixed (fn:=f29) (by kernel_rfl) (by kernel_rfl) fun x hp=>⟨cx29,zjf (mkCx_ok tabs_ok ⟨h92,h91,h93,h94,trivial⟩ trivial trivial),by kernel_rfl,by kernel_rfl,by rw [e29];exact v29 x hp⟩
theorem h89:Sx.Good prog 89 k89:=con_of mixed (fn:=f89) (by kernel_rfl) (by kernel_rfl) fun x hp=>⟨cx89,mkCx_ok tabs_ok trivial trivial trivial,by kernel_rfl,by kernel_rfl,by rw [e89];exact v89 x hp⟩
theorem h88:Sx.Good prog 88 k88:=con_of mixed (fn:=f88) (by kernel_rfl) (by kernel_rfl) fun x hp=>⟨cx88,mkCx_ok tabs_ok trivial trivial trivial,by kernel_rfl,by kernel_rfl,by rw [e88];exact v88 x hp⟩
theorem h90:Sx.Good prog 90 k90:=con_of mixed (fn:=f90) (by kernel_rfl) (by kernel_rfl) fun x hp=>⟨cx90,zjf (mkCx_ok tabs_ok ⟨h89,trivial⟩ trivial trivial),by kernel_rfl,by kernel_rfl,by rw [e90];exact v90 x hp⟩
theorem h27:Sx.Good prog 27 k27:=con_of mixed (fn:=f27) (by kernel_rfl) (by kernel_rfl) fun x hp=>⟨cx27,mkCx_ok tabs_ok ⟨h88,h89,h90,trivial⟩ trivial trivial,by kernel_rfl,by kernel_rfl,by rw [e27];exact v27 x hp⟩
theorem h34:Sx.Good prog 34 k34:=con_of mixed (fn:=f34) (by kernel_rfl) (by kernel_rfl) fun x hp=>⟨cx34,mkCx_ok zbD trivial trivial trivial,by kernel_rfl,by kernel_rfl,by rw [e34];exact v34 x hp⟩
theorem h35:Sx.Good prog 35 k35:=con_of mixed (fn:=f35) (by kernel_rfl) (by kernel_rfl) fun x hp=>⟨cx35,mkCx_ok zbD trivial trivial trivial,by kernel_rfl,by kernel_rfl,by rw [e35];exact v35 x hp⟩
theorem h99:Sx.Good prog 99 k99:=con_of mixed (fn:=f99) (by kernel_rfl) (by kernel_rfl) fun x hp=>⟨cx99,mkCx_ok zbD ⟨h34,h35,trivial⟩ trivial trivial,by kernel_rfl,by kernel_rfl,by rw [e99];exact v99 x hp⟩
theorem q33u_69:Sx.GoodQ prog i33u_69:=inl_of mixed (fn:=f98) (by kernel_rfl) (by kernel_rfl) (mkCx_ok zbD trivial trivial trivial) rfl rfl
theorem q33u_81:Sx.GoodQ prog i33u_81:=inl_of mixed (fn:=f98) (by kernel_rfl) (by kernel_rfl) (mkCx_ok zbD trivial trivial trivial) rfl rfl
theorem q33u_99:Sx.GoodQ prog i33u_99:=inl_of mixed (fn:=f98) (by kernel_rfl) (by kernel_rfl) (mkCx_ok zbD trivial trivial trivial) rfl rfl
theorem zoX:Sx.GoodQ prog zmq:=inl_of mixed (fn:=f98) (by kernel_rfl) (by kernel_rfl) (mkCx_ok zbD trivial trivial trivial) rfl rfl
theorem zoW:Sx.GoodQ prog zmp:=inl_of mixed (fn:=f98) (by kernel_rfl) (by kernel_rfl) (mkCx_ok zbD trivial trivial trivial) rfl rfl
theorem zoV:Sx.GoodQ prog zmo:=inl_of mixed (fn:=f98) (by kernel_rfl) (by kernel_rfl) (mkCx_ok zbD trivial trivial trivial) rfl rfl
theorem zoU:Sx.GoodQ prog zmn:=inl_of mixed (fn:=f98) (by kernel_rfl) (by kernel_rfl) (mkCx_ok zbD trivial trivial trivial) rfl rfl
theorem zoT:Sx.GoodQ prog zmm:=inl_of mixed (fn:=f98) (by kernel_rfl) (by kernel_rfl) (mkCx_ok zbD trivial trivial trivial) rfl rfl
theorem zoS:Sx.GoodQ prog zml:=inl_of mixed (fn:=f98) (by kernel_rfl) (by kernel_rfl) (mkCx_ok zbD trivial trivial trivial) rfl rfl
theorem zoR:Sx.GoodQ prog zmk:=inl_of mixed (fn:=f98) (by kernel_rfl) (by kernel_rfl) (mkCx_ok zbD trivial trivial trivial) rfl rfl
theorem h33:Sx.Good prog 33 k33:=con_of mixed (fn:=f33) (by kernel_rfl) (by kernel_rfl) fun x hp=>⟨cx33,zin (zlG (mkCx_ok zbD ⟨h34,h35,h99,trivial⟩ trivial trivial)) ⟨q33u_69,q33u_81,q33u_99,zoX,zoW,zoV,zoU,zoT,zoS,zoR,trivial⟩,by kernel_rfl,by kernel_rfl,by rw [e33];exact v33 x hp⟩
end Go.Fade
