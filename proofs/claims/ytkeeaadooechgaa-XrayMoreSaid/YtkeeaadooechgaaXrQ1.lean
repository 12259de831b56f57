/-
  Chapter 6: XrayEnds.
-/
import Derived.Test.YtkeeaadooechgaaXrP14
set_option linter.all false
set_option maxRecDepth 100000
set_option maxHeartbeats 4000000
set_option linter.unusedVariables false
namespace Go.Xr
open Go Go.Sx
theorem fits_app (c:Crate) (l:List Look) (m:Look):fitsL c (l++[m])=(fitsL c l).filter fun t=>fitB t m:=by
 unfold fitsL truthsV
 rw [List.filter_flatMap]
 congr 1
 funext a
 rw [List.filter_map,List.filter_filter]
 congr 1
 apply List.filter_congr
 intro b _
 show (l++[m]).all (fitB (a,b))=(fitB (a,b) m&&l.all (fitB (a,b)))
 rw [List.all_append]
 simp [Bool.and_comm]
theorem judge_eq {c:Crate} {l:List Look} (hc:CrateOk c) {r k:Int} (hp:placeB c r k=true) :
  judgeV c l r k=cond ((((fitsL c l).countP fun t=>badB t r k:Nat):Int)==0) 0 (cond ((((fitsL c l).countP fun t=>badB t r k:Nat):Int)==((fitsL c l).length:Int)) 2 1):=by
 have hP:=pict_is hc l
 simp only [placeB,Bool.and_eq_true,inB_iff] at hp
 have hsp:=hP.spots r.toNat k.toNat (by omega) (by omega)
 rw [show ((r.toNat:Nat):Int)=r by omega,show ((k.toNat:Nat):Int)=k by omega] at hsp
 unfold judgeV
 rw [hsp,hP.cnt]
theorem count_bad {c:Crate} {l:List Look} (h:openE c l true≠0):xray_Count (c,l)=((0,0),openE c l true)∧xray_Causes (c,l)=((0,0,0,0),openE c l true):=by
 have e:(openE c l true==0)=false:=by simpa using h
 unfold xray_Count xray_Causes
 exact ⟨by rw [e];rfl,by rw [e];rfl⟩
theorem count_good {c:Crate} {l:List Look} (h:Went c l):xray_Count (c,l)=((pictV c l).2.1,0)∧xray_Causes (c,l)=((pictV c l).1,0):=by
 have e:=went_zero h
 unfold xray_Count xray_Causes
 exact ⟨by rw [e];rfl,by rw [e];rfl⟩
theorem judge_vals {c:Crate} {l:List Look} (r k:Int) :
  (openE c l true≠0→(xray_Judge (c,l,r,k)).1=0∧(xray_Judge (c,l,r,k)).2≠0) ∧
  (Went c l→(placeB c r k=true→xray_Judge (c,l,r,k)=(judgeV c l r k,0))∧(placeB c r k=false→xray_Judge (c,l,r,k)=(0,2))):=by
 have hj:xray_Judge (c,l,r,k)=(cond (openE c l (placeE c r k)==0) (judgeV c l r k) 0,openE c l (placeE c r k)):=rfl
 refine ⟨fun hb=>?_,fun hw=>⟨fun hp=>?_,fun hp=>?_⟩⟩
 ·have hne:openE c l (placeE c r k)≠0:=fun h0=>by
   obtain ⟨hw,_⟩:=went_of h0
   exact hb (went_zero hw)
  rw [hj,show (openE c l (placeE c r k)==0)=false by simpa using hne]
  exact ⟨rfl,hne⟩
 ·rw [hj,place_eq hw.crate,hp,went_zero hw];rfl
 ·have e:=(openE_cases c l (placeE c r k)).2.2.1 (crate_iff.2 hw.crate) (by have:=hw.len;omega) (.inl (by rw [place_eq hw.crate];exact hp))
  rw [hj,e];rfl
end Go.Xr
