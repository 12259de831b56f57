/-
  Orders: what Share and Lack give.
-/
import Derived.Test.YtdhdklojcppfcaaTtOT
set_option linter.all false
set_option maxRecDepth 100000
set_option maxHeartbeats 4000000
set_option linter.unusedVariables false
namespace Go.Tt
open Go Go.Sx
theorem zju (m:Market):(shareV m).length=m.2.1.length:=by rw [shareV,zls];simp [idx]
theorem znO {m:Market} {i:Nat} (hi:i<m.2.1.length):((shareV m).getD i []).length=m.1.length :=
 zjt m.1.length _ m _ _ (zan _ [] i (by have:=zju m;rw [shareV] at this;omega))
structure LackIs (s:Sale):Prop where
 f:(0<(zao s).2.1∧(zao s).2.2=0)∨((zao s).2.1=0∧(zao s).2.2=4)
 s0:0<=(zao s).1
 s1:(zao s).1<2^s.2.length
 val:lackM (worstM s) (zao s).1=(zao s).2.1
theorem lack_is {s:Sale} (h:saleB s=true):LackIs s:=by
 have hm:=ziB (lackM (worstM s)) (setsTo (2^s.2.length))
 have e:zao s=cond (mostV (lackM (worstM s)) (setsTo (2^s.2.length))==(0,0)) (0,0,4) ((mostV (lackM (worstM s)) (setsTo (2^s.2.length))).1,(mostV (lackM (worstM s)) (setsTo (2^s.2.length))).2,0):=by
  rw [zao,h,cond_true,zix]
 have hp:(1:Int)<=2^s.2.length:=by rw [pow_nat];have:=Nat.pow_pos (n:=s.2.length) (show 0<2 by decide);omega
 by_cases hz:mostV (lackM (worstM s)) (setsTo (2^s.2.length))=(0,0)
 ·have e:zao s=(0,0,4):=by rw [e,hz];rfl
  exact ⟨.inr ⟨by rw [e],by rw [e]⟩,by rw [e];exact Int.le_refl 0,by rw [e];show (0:Int)<_;omega,by rw [e];exact zft _⟩
 ·have hb:(mostV (lackM (worstM s)) (setsTo (2^s.2.length))==(0,0))=false:=by
   rw [Bool.eq_false_iff];intro hh;exact hz (eq_of_beq hh)
  rw [hb,cond_false] at e
  obtain ⟨h1,h2⟩:=hm.val hz
  have hr:=zcQ.1 h1
  have h0:(mostV (lackM (worstM s)) (setsTo (2^s.2.length))).2≠0:=fun hh=>hz (hm.zero hh)
  have hn:=hm.nn
  refine ⟨.inl ⟨?_,by rw [e]⟩,by rw [e];exact hr.1,?_,by rw [e];exact h2⟩
  ·rw [e];show 0<(mostV (lackM (worstM s)) (setsTo (2^s.2.length))).2;omega
  ·rw [e,pow_nat];exact hr.2
end Go.Tt
