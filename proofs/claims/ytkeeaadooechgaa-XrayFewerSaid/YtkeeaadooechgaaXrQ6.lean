/-
  Chapter 6: XrayFewer.
-/
import Derived.Test.YtkeeaadooechgaaXrQ5
set_option linter.all false
set_option maxRecDepth 100000
set_option maxHeartbeats 4000000
set_option linter.unusedVariables false
namespace Go.Xr
open Go Go.Sx
theorem missed_more {c:Crate} {S:List Spot} {s:Spot} (h1:(xray_Missed (c,S)).2=0) (h2:(xray_Missed (c,S++[s])).2=0):(xray_Missed (c,S++[s])).1≤(xray_Missed (c,S)).1:=by
 have h1:openE c (S.map goodOf) true=0:=h1
 have h2:openE c ((S++[s]).map goodOf) true=0:=h2
 have w1:=(went_of h1).1
 have w2:=(went_of h2).1
 have hc:=crate_iff.1 (crate_iff.2 w1.crate)
 obtain ⟨u,u1,u2⟩:=(pict_is hc ((S++[s]).map goodOf)).hiE w2.ne
 have e:fitsL c ((S++[s]).map goodOf)=(fitsL c (S.map goodOf)).filter fun t=>fitB t (goodOf s):=by
  rw [List.map_append];exact fits_app c _ _
 rw [e] at u1
 have:=(pict_is hc (S.map goodOf)).hi u (List.mem_filter.1 u1).1
 unfold xray_Missed
 rw [show openE (c,S++[s]).1 ((c,S++[s]).2.map goodOf) true=0 from h2,show openE (c,S).1 ((c,S).2.map goodOf) true=0 from h1]
 show (pictV c ((S++[s]).map goodOf)).2.1.2≤(pictV c (S.map goodOf)).2.1.2
 omega
theorem missed_bad {c:Crate} {S:List Spot} (h:(xray_Missed (c,S)).2≠0):(xray_Missed (c,S)).1=0:=by
 have h:openE (c,S).1 ((c,S).2.map goodOf) true≠0:=h
 unfold xray_Missed
 rw [beq_eq_false_iff_ne.2 h];rfl
theorem few_max {c:Crate} {most:Int} (hc:CrateOk c) (h0:0≤most) (h1:most≤1048576):xray_Fewest (c,most)=(fewestV c most,0):=by
 refine (few_eq ?_).2
 unfold fewestE
 rw [crate_iff.2 hc,inB_iff.2 ⟨h0,h1⟩];rfl
theorem v10 (x:Crate × (List Spot) × Spot × Int × Int) (hp:k10.pre x):V10 x:=by
 obtain ⟨⟨l,k,a,b⟩,S,s,most,by_⟩:=x
 have hp:byteP by_:=hp
 refine ⟨fun _=>⟨trivial,rfl⟩,fun hg=>?_⟩
 have hg:(decide ((16:Int)<(l.length:Int))||decide ((40:Int)≤(S.length:Int)))=false:=hg
 rw [Bool.or_eq_false_iff] at hg
 have g1:=of_decide_eq_false hg.1
 have g2:=of_decide_eq_false hg.2
 have c1:l.length≤big:=by simp only [big];omega
 have eS:((List.replicate 0 ((0,0):Spot))++S)++((List.replicate 1 ((0,0):Spot)).set 0 s)=S++[s]:=rfl
 dsimp only
 rw [eS]
 have r1:∀ {k:Int} {n:Nat},0≤k→k≤100→n≤1000→Z.roomy k (n:Int):=fun h1 h2 h3=>roomy_of h1 h2 (by omega)
 have lS:(S++[s]).length≤40:=by rw [List.length_append];simp only [List.length_cons,List.length_nil];omega
 refine ⟨⟨c1,by simp only [big];omega⟩,r1 (by decide) (by decide) (by show S.length≤1000;omega),r1 (by decide) (by decide) (by omega),⟨c1,by simp only [big];omega⟩,fun hb=>?_,fun _=>?_⟩
 ·exfalso
  rw [Bool.or_eq_true] at hb
  rcases hb with hb | hb
  ·rw [Bool.and_eq_true,Bool.and_eq_true,decide_eq_true_eq,beq_iff_eq,beq_iff_eq] at hb
   have:=missed_more hb.1.1 hb.1.2
   omega
  ·rw [Bool.and_eq_true,Bool.not_eq_true',beq_eq_false_iff_ne,Bool.not_eq_true',beq_eq_false_iff_ne] at hb
   exact hb.2 (missed_bad hb.1)
 refine ⟨c1,fun _=>c1,fun hbad=>⟨fun _=>trivial,?_⟩,fun hok=>?_⟩
 ·have hbad:(!(fewestE (l,k,a,b) most==0)||!crateB (l,k,a,b))=true:=hbad
  have hne:fewestE (l,k,a,b) most≠0:=fun he=>by
   have h1:=(few_eq he).1.1
   rw [he,crate_iff.2 h1] at hbad;cases hbad
  rw [(few_bad hne).1]
  show (((!(fewestE (l,k,a,b) most==0))&&((([]:List Spot).length:Int)==0))&&true)=true
  rw [beq_eq_false_iff_ne.2 hne];rfl
 have hok:(!(fewestE (l,k,a,b) most==0)||!crateB (l,k,a,b))=false:=hok
 have he:fewestE (l,k,a,b) most=0:=by
  rw [Bool.or_eq_false_iff] at hok
  simpa using hok.1
 obtain ⟨⟨hc,m0,m1⟩,hfe⟩:=few_eq he
 have hcl:0≤a∧a≤3:=hc.clamps
 have hdi:0≤b∧b≤3:=hc.dies
 have hcA:CrateOk (l,k,min 3 (a+1),b):=⟨hc.r1,hc.r8,hc.c1,hc.c8,hc.lie,⟨by show 0≤min 3 (a+1);omega,by show min 3 (a+1)≤3;omega⟩,hc.dies⟩
 have hcB:CrateOk (l,k,a,min 3 (b+1)):=⟨hc.r1,hc.r8,hc.c1,hc.c8,hc.lie,hc.clamps,⟨by show 0≤min 3 (b+1);omega,by show min 3 (b+1)≤3;omega⟩⟩
 have hby:0≤by_∧by_≤255:=hp
 rw [hfe,few_max hc (most:=max 0 (most - by_*3)) (by omega) (by omega),few_max hcA m0 m1,few_max hcB m0 m1]
 have q0:=(few_is hc m0).len
 have q1:=(few_is hc (most:=max 0 (most - by_*3)) (by omega)).len
 have q2:=(few_is hcA m0).len
 have q3:=(few_is hcB m0).len
 have n1:=many_mono (c:=(l,k,a,b)) (c':=(l,k,a,b)) (m:=most) (m':=max 0 (most - by_*3)) hc (by omega) fun n _ h=>can_most (by omega) n h
 have n2:=many_mono (c:=(l,k,a,b)) (c':=(l,k,min 3 (a+1),b)) (m:=most) (m':=most) hcA m0 fun n h0 h=>can_more hc hcA (by omega) (Int.le_refl _) n h0 h
 have n3:=many_mono (c:=(l,k,a,b)) (c':=(l,k,a,min 3 (b+1))) (m:=most) (m':=most) hcB m0 fun n h0 h=>can_more hc hcB (Int.le_refl _) (by omega) n h0 h
 dsimp only
 refine ⟨by simp only [Z.in64];omega,by simp only [Z.in64];omega,c1,by simp only [Z.in64];omega,by simp only [Z.in64];omega,c1,c1,fun _=>trivial,?_⟩
 rw [decide_eq_true (by omega),decide_eq_true (by omega),decide_eq_true (by omega)]
 rfl
end Go.Xr
