/-
  TopCentre: its loop over the grooves, and its own condition.
-/
import Derived.Test.YtlmcahfjedlokaaTcP3
import Derived.Test.YtlmcahfjedlokaaTcAuto3
set_option linter.all false
set_option maxRecDepth 100000
set_option maxHeartbeats 8000000
namespace Go.Tc
open Go Go.Sx
theorem ixF_at {α:Type} (p:α→Bool) (d:α):∀ (l:List α) (i:Int),0≤i→(ixF p l i=-1∨(i≤ixF p l i∧ixF p l i<i+(l.length:Int)∧p (l.getD (ixF p l i - i).toNat d)=true))
 | [],i,_=>.inl rfl
 | a::l,i,h=>by
  simp only [ixF,List.length_cons]
  cases ha:p a with
  | true =>
   refine .inr ⟨by simp only [cond_true];omega,by simp only [cond_true];omega,?_⟩
   simp only [cond_true]
   rw [show (i - i).toNat=0 by omega]
   exact ha
  | false =>
   simp only [cond_false]
   rcases ixF_at p d l (i+1) (by omega) with h1 | ⟨h1,h2,h3⟩
   ·exact .inl h1
   ·refine .inr ⟨by omega,by omega,?_⟩
    rw [show (ixF p l (i+1) - i).toNat=(ixF p l (i+1) - (i+1)).toNat+1 by omega]
    exact h3
theorem grades_ok {X:Sand} (hs:SandOk X) {l:List Int} {G:List Int × Int} (hG:G=slat_Grades (X.1,X.2.1,X.2.2,l)) (h:G.2=0) :
  G.1=gradesV X l∧l.length≤8∧(∀ n∈l,0≤n∧n≤1000):=by
 obtain ⟨j,a,b⟩:=X
 subst hG
 unfold slat_Grades at h ⊢
 simp only [isJig_two.2 hs,cond_true] at h ⊢
 cases h8:decide ((8:Int)<(l.length:Int)) with
 | true=>rw [h8] at h;simp at h
 | false =>
  rw [h8] at h
  simp only [cond_false] at h ⊢
  cases h0:(((l.length:Int)==0)||!limB (-1) l) with
  | true=>rw [h0] at h;simp at h
  | false =>
   rw [h0] at h
   simp only [cond_false] at h ⊢
   cases hc:closesV (j,a,b)==2 with
   | false=>rw [hc] at h;simp at h
   | true =>
    have hl:=of_decide_eq_false h8
    simp only [Bool.or_eq_false_iff] at h0
    exact ⟨rfl,by omega,lim_all l (-1) (by decide) (not_iff.2.1 h0.2)⟩
theorem off_ok {X:Sand} (hs:SandOk X) {s:Int} (h:0≤s∧s<X.1.2.2.2.2.2):slat_Off (X.1,X.2.1,X.2.2,s)=(sideS X s,highS X,0):=by
 obtain ⟨j,a,b⟩:=X
 have h:0≤s∧s<j.2.2.2.2.2:=h
 unfold slat_Off
 simp only [isJig_two.2 hs,cond_true,inB_iff.2 (show (0:Int)≤s∧s≤j.2.2.2.2.2 - 1 by omega)]
structure PicksOk (X:Sand) (up y8 y9 y10 y11 y12:Int):Prop where
 up:1000*(highS X).1≤up∧up≤1000*(highS X).2
 y8:X.2.1.2.2.1.1≤y8∧y8≤X.2.1.2.2.1.2
 y9:X.2.1.2.2.2.1≤y9∧y9≤X.2.1.2.2.2.2
 y10:X.2.2.2.2.1.1≤y10∧y10≤X.2.2.2.2.1.2
 y11:X.2.2.2.2.2.1≤y11∧y11≤X.2.2.2.2.2.2
 y12:X.1.2.2.1.1≤y12∧y12≤X.1.2.2.1.2
theorem out_in {X:Sand} (hs:SandOk X) {up y8 y9 y10 y11 y12:Int} (P:PicksOk X up y8 y9 y10 y11 y12) {s:Int} (h:0≤s) :
  (sideS X s).1≤((((y8+(s*y9))+y10)+(s*y11)) - (2*y12))∧((((y8+(s*y9))+y10)+(s*y11)) - (2*y12))≤(sideS X s).2:=by
 have a1:=Int.mul_le_mul_of_nonneg_left P.y9.1 h
 have a2:=Int.mul_le_mul_of_nonneg_left P.y9.2 h
 have a3:=Int.mul_le_mul_of_nonneg_left P.y11.1 h
 have a4:=Int.mul_le_mul_of_nonneg_left P.y11.2 h
 have h8:=P.y8;have h10:=P.y10;have h12:=P.y12
 rw [side_eq hs h]
 exact ⟨by simp only;omega,by simp only;omega⟩
theorem sq_le {a A:Int} (h:-A≤a∧a≤A):a*a≤A*A:=(sq_bd h).2
theorem in_far {s:Span} {v:Int} (h:s.1≤v∧v≤s.2):-farS s≤v∧v≤farS s:=by unfold farS;omega
theorem in_far' {s:Span} {v:Int} (h:1000*s.1≤v∧v≤1000*s.2):-(1000*farS s)≤v∧v≤1000*farS s:=by unfold farS;omega
theorem within_le {s t:Span} {n o u:Int} (h:withinS s t n=true) (ho:s.1≤o∧o≤s.2) (hu:1000*t.1≤u∧u≤1000*t.2):((1000000*o)*o)+(u*u)≤(4000000*n)*n:=by
 have h:=of_decide_eq_true h
 have h1:=sq_le (in_far ho)
 have h2:=sq_le (in_far' hu)
 have e1:(1000000*o)*o=1000000*(o*o):=Int.mul_assoc _ _ _
 have e2:(1000*farS t)*(1000*farS t)=1000000*(farS t*farS t):=by
  rw [Int.mul_assoc,Int.mul_left_comm (farS t) 1000 (farS t)]
  omega
 have e3:(4000000*n)*n=4000000*(n*n):=Int.mul_assoc _ _ _
 have e4:4*n*n=4*(n*n):=Int.mul_assoc _ _ _
 omega
theorem loop3 {X:Sand} (hs:SandOk X) {l:List Int} {G:List Int × Int} (hG:G=slat_Grades (X.1,X.2.1,X.2.2,l)) {up y8 y9 y10 y11 y12:Int} (P:PicksOk X up y8 y9 y10 y11 y12)
  (out:Int→Int) (hout:∀ s0,out s0=((((y8+(s0*y9))+y10)+(s0*y11)) - (2*y12)))
  (O:Int→Span × Span × Int) (hO:∀ s0,O s0=slat_Off (X.1,X.2.1,X.2.2,s0)) (n:Int) (hn:n=X.1.2.2.2.2.2)
  {A B C D E F:Prop} (ha:A) (hb:B) (hc:C) (hd:D) (he:E) :
  Z.LoopP (X:=Int) (0) (fun s0 K0=>(((decide ((s0:Int)<n)=true)→(A∧(Z.in64 (s0*y9)∧(Z.in64 (y8+(s0*y9))∧(Z.in64 ((y8+(s0*y9))+y10)∧(Z.in64 (s0*y11)∧(Z.in64 (((y8+(s0*y9))+y10)+(s0*y11))∧(Z.in64 (2*y12)∧(Z.in64 (out s0)∧((((((!(((O s0).2).2==0))||decide (((out s0):Int)<((O s0).1).1))||decide ((((O s0).1).2:Int)<(out s0)))=false)→Z.in64 (1000*(((O s0).2).1).1))∧(((((((!(((O s0).2).2==0))||decide (((out s0):Int)<((O s0).1).1))||decide ((((O s0).1).2:Int)<(out s0)))||decide ((up:Int)<(1000*(((O s0).2).1).1)))=false)→Z.in64 (1000*(((O s0).2).1).2))∧((((((((!(((O s0).2).2==0))||decide (((out s0):Int)<((O s0).1).1))||decide ((((O s0).1).2:Int)<(out s0)))||decide ((up:Int)<(1000*(((O s0).2).1).1)))||decide (((1000*(((O s0).2).1).2):Int)<up))=true)→F)∧(((((((!(((O s0).2).2==0))||decide (((out s0):Int)<((O s0).1).1))||decide ((((O s0).1).2:Int)<(out s0)))||decide ((up:Int)<(1000*(((O s0).2).1).1)))||decide (((1000*(((O s0).2).1).2):Int)<up))=false)→((((!(G.2==0))=false)→((0:Int)≤s0∧(s0:Int)<((G.1).length:Int)))∧(((((!(G.2==0))||(((G.1).getD (Int.toNat s0) 0)==(-1)))=true)→(Z.in64 (s0+1)∧(B∧(C∧(D∧(K0 (s0+1)))))))∧((((!(G.2==0))||(((G.1).getD (Int.toNat s0) 0)==(-1)))=false)→(((0:Int)≤s0∧(s0:Int)<((G.1).length:Int))∧(((decide ((((G.1).getD (Int.toNat s0) 0):Int)<0)=false)→((0:Int)≤s0∧(s0:Int)<((G.1).length:Int)))∧((((decide ((((G.1).getD (Int.toNat s0) 0):Int)<0)||decide (((l.length:Int):Int)≤((G.1).getD (Int.toNat s0) 0)))=false)→Z.in64 (1000000*(out s0)))∧((((decide ((((G.1).getD (Int.toNat s0) 0):Int)<0)||decide (((l.length:Int):Int)≤((G.1).getD (Int.toNat s0) 0)))=false)→Z.in64 ((1000000*(out s0))*(out s0)))∧((((decide ((((G.1).getD (Int.toNat s0) 0):Int)<0)||decide (((l.length:Int):Int)≤((G.1).getD (Int.toNat s0) 0)))=false)→Z.in64 (up*up))∧((((decide ((((G.1).getD (Int.toNat s0) 0):Int)<0)||decide (((l.length:Int):Int)≤((G.1).getD (Int.toNat s0) 0)))=false)→Z.in64 (((1000000*(out s0))*(out s0))+(up*up)))∧((((decide ((((G.1).getD (Int.toNat s0) 0):Int)<0)||decide (((l.length:Int):Int)≤((G.1).getD (Int.toNat s0) 0)))=false)→((0:Int)≤s0∧(s0:Int)<((G.1).length:Int)))∧((((decide ((((G.1).getD (Int.toNat s0) 0):Int)<0)||decide (((l.length:Int):Int)≤((G.1).getD (Int.toNat s0) 0)))=false)→((0:Int)≤((G.1).getD (Int.toNat s0) 0)∧(((G.1).getD (Int.toNat s0) 0):Int)<(l.length:Int)))∧((((decide ((((G.1).getD (Int.toNat s0) 0):Int)<0)||decide (((l.length:Int):Int)≤((G.1).getD (Int.toNat s0) 0)))=false)→Z.in64 (4000000*(l.getD (Int.toNat ((G.1).getD (Int.toNat s0) 0)) 0)))∧((((decide ((((G.1).getD (Int.toNat s0) 0):Int)<0)||decide (((l.length:Int):Int)≤((G.1).getD (Int.toNat s0) 0)))=false)→((0:Int)≤s0∧(s0:Int)<((G.1).length:Int)))∧((((decide ((((G.1).getD (Int.toNat s0) 0):Int)<0)||decide (((l.length:Int):Int)≤((G.1).getD (Int.toNat s0) 0)))=false)→((0:Int)≤((G.1).getD (Int.toNat s0) 0)∧(((G.1).getD (Int.toNat s0) 0):Int)<(l.length:Int)))∧((((decide ((((G.1).getD (Int.toNat s0) 0):Int)<0)||decide (((l.length:Int):Int)≤((G.1).getD (Int.toNat s0) 0)))=false)→Z.in64 ((4000000*(l.getD (Int.toNat ((G.1).getD (Int.toNat s0) 0)) 0))*(l.getD (Int.toNat ((G.1).getD (Int.toNat s0) 0)) 0)))∧(((((decide ((((G.1).getD (Int.toNat s0) 0):Int)<0)||decide (((l.length:Int):Int)≤((G.1).getD (Int.toNat s0) 0)))||decide ((((4000000*(l.getD (Int.toNat ((G.1).getD (Int.toNat s0) 0)) 0))*(l.getD (Int.toNat ((G.1).getD (Int.toNat s0) 0)) 0)):Int)<(((1000000*(out s0))*(out s0))+(up*up))))=true)→F)∧((((decide ((((G.1).getD (Int.toNat s0) 0):Int)<0)||decide (((l.length:Int):Int)≤((G.1).getD (Int.toNat s0) 0)))||decide ((((4000000*(l.getD (Int.toNat ((G.1).getD (Int.toNat s0) 0)) 0))*(l.getD (Int.toNat ((G.1).getD (Int.toNat s0) 0)) 0)):Int)<(((1000000*(out s0))*(out s0))+(up*up))))=false)→(Z.in64 (s0+1)∧(B∧(C∧(D∧(K0 (s0+1))))))))))))))))))))))))))))))))))))∧((decide ((s0:Int)<n)=false)→E))):=by
 obtain ⟨hj,hsa,hsb⟩:=hs.is
 have hn1:=hj.n
 refine ⟨fun s=>0≤s∧s≤n,fun s=>(n - s).toNat,⟨by omega,by omega⟩,?_⟩
 rintro s ⟨h0,hle⟩
 refine ⟨fun hlt=>?_,fun _=>he⟩
 have hlt:s<n:=of_decide_eq_true hlt
 have ho:=out_in hs P h0
 have hO':=off_ok hs (s:=s) ⟨h0,by omega⟩
 have hsm:=side_small hs (i:=s) ⟨h0,by omega⟩
 have hhi:=high_small hs
 have hup:=P.up
 have hp8:=P.y8;have hp10:=P.y10;have hp12:=P.y12;have hp9:=P.y9;have hp11:=P.y11
 have s1:=hsa.s;have s2:=hsb.s;have s3:=hsa.p;have s4:=hsb.p;have s5:=hj.s
 have m9:=mul_in (n:=s) (N:=10) ⟨h0,by omega⟩ (a:=y9) (A:=50) (by omega) (by decide)
 have m11:=mul_in (n:=s) (N:=10) ⟨h0,by omega⟩ (a:=y11) (A:=50) (by omega) (by decide)
 have step:Z.in64 (s+1)∧(B∧(C∧(D∧((0≤s+1∧s+1≤n)∧(n - (s+1)).toNat<(n - s).toNat)))) :=
  ⟨by simp only [Z.in64];omega,hb,hc,hd,⟨by omega,by omega⟩,by omega⟩
 rw [hO s,hO',hout s]
 dsimp only
 have ol1:((((y8+(s*y9))+y10)+(s*y11)) - (2*y12))=out s:=(hout s).symm
 refine ⟨ha,by simp only [Z.in64];omega,by simp only [Z.in64];omega,by simp only [Z.in64];omega,by simp only [Z.in64];omega,by simp only [Z.in64];omega,by simp only [Z.in64];omega,by simp only [Z.in64];omega,?_⟩
 rw [ol1] at ho ⊢
 simp only [smallS] at hsm hhi
 refine ⟨fun _=>by simp only [Z.in64];omega,fun _=>by simp only [Z.in64];omega,fun hbad=>?_,fun _=>?_⟩
 ·simp only [Bool.or_eq_true,decide_eq_true_eq] at hbad
  rcases hbad with (((hb1 | hb1) | hb1) | hb1) | hb1
  ·exact absurd hb1 (by decide)
  all_goals omega
 refine ⟨fun hg=>?_,fun _=>step,fun hg=>?_⟩
 ·have hg0:G.2=0:=eq_of_beq (not_iff.2.1 hg)
  have hgl:=(grades_ok hs hG hg0).1
  rw [hgl]
  simp only [gradesV,List.length_map,List.length_range]
  omega
 rw [Bool.or_eq_false_iff] at hg
 obtain ⟨hg,hne⟩:=hg
 have hg0:G.2=0:=eq_of_beq (not_iff.2.1 hg)
 obtain ⟨hgl,hl8,hlim⟩:=grades_ok hs hG hg0
 have hsn:s.toNat<X.1.2.2.2.2.2.toNat:=by omega
 have hget:G.1.getD (Int.toNat s) 0=gradeV X l s:=by
  rw [hgl]
  unfold gradesV
  rw [rangeGet _ _ hsn,Int.toNat_of_nonneg h0]
 have hlen:(0:Int)≤s∧s<(G.1.length:Int):=by
  rw [hgl]
  simp only [gradesV,List.length_map,List.length_range]
  omega
 rw [hget] at hne ⊢
 rcases ixF_at (fun n=>withinS (sideS X s) (highS X) n) 0 l 0 (by omega) with hm | ⟨hi0,hi1,hw⟩
 ·have hm:gradeV X l s=-1:=hm
  rw [hm] at hne
  exact absurd hne (by decide)
 have hi0:0≤gradeV X l s:=hi0
 have hi1:gradeV X l s<0+(l.length:Int):=hi1
 have hw:withinS (sideS X s) (highS X) (l.getD (gradeV X l s - 0).toNat 0)=true:=hw
 have hq:=hlim _ (getD_mem' l 0 (gradeV X l s) hi0 (by omega))
 rw [Int.sub_zero] at hw
 have hfin:=within_le hw ho hup
 have q1:=sq_bd (a:=out s) (A:=10000) (by omega)
 have q2:=sq_bd (a:=up) (A:=100000000) (by omega)
 have e1:(1000000*out s)*out s=1000000*(out s*out s):=Int.mul_assoc _ _ _
 generalize gradeV X l s=g at *
 generalize l.getD g.toNat 0=q at *
 have q3:=sq_bd (a:=q) (A:=1000) (by omega)
 have e3:(4000000*q)*q=4000000*(q*q):=Int.mul_assoc _ _ _
 rw [e1,e3] at hfin ⊢
 generalize out s*out s=oo at *
 generalize up*up=uu at *
 generalize q*q=qq at *
 generalize out s=o at *
 have hgl':(0:Int)≤g∧g<(l.length:Int):=⟨hi0,by omega⟩
 refine ⟨hlen,fun _=>hlen,fun _=>by simp only [Z.in64];omega,fun _=>by simp only [Z.in64];omega,fun _=>by simp only [Z.in64];omega,fun _=>by simp only [Z.in64];omega,fun _=>hlen,fun _=>hgl',fun _=>by simp only [Z.in64];omega,fun _=>hlen,fun _=>hgl',fun _=>by simp only [Z.in64];omega,fun hbad=>?_,fun _=>step⟩
 simp only [Bool.or_eq_true,decide_eq_true_eq] at hbad
 rcases hbad with (hb1 | hb1) | hb1
 all_goals omega
theorem wide_ok {x:CArgs} (hp:pressB x.1=true) (hk:0≤x.2.1∧x.2.1<(x.1.1.length:Int)) (hn:0≤x.2.2.1∧x.2.2.1≤8000) :
  (wideT x).2=0∧1000*(wideT x).1.1≤thin (mountV x.1 x.2.1.toNat) x.2.2.1∧thick (mountV x.1 x.2.1.toNat) x.2.2.1≤1000*(wideT x).1.2:=by
 have e:wideT x=((Int.tdiv (thin (mountV x.1 x.2.1.toNat) x.2.2.1) 1000,Int.tdiv (thick (mountV x.1 x.2.1.toNat) x.2.2.1+999) 1000),0):=by
  show wideV x.1 x.2.1 x.2.2.1=_
  unfold wideV
  rw [hp,inB_iff.2 (show (0:Int)≤x.2.1∧x.2.1≤(x.1.1.length:Int) - 1 by omega),inB_iff.2 hn]
  rfl
 have M:=mount_ok (press_iff.1 hp) (k:=x.2.1.toNat) (by omega)
 have q1:=thin_bd M (n:=x.2.2.1) ⟨by omega,by omega⟩
 have q2:=thick_bd M (n:=x.2.2.1) ⟨by omega,by omega⟩
 rw [e]
 generalize thin (mountV x.1 x.2.1.toNat) x.2.2.1=t1 at *
 generalize thick (mountV x.1 x.2.1.toNat) x.2.2.1=t2 at *
 refine ⟨rfl,?_,?_⟩
 ·show 1000*Int.tdiv t1 1000≤t1
  rw [Int.tdiv_eq_ediv_of_nonneg q1.2.1];omega
 ·show t2≤1000*Int.tdiv (t2+999) 1000
  rw [Int.tdiv_eq_ediv_of_nonneg (by omega)];omega
theorem lead_in {m:Mounted} (M:mountOk m) {n w s:Int} (hn:0≤n∧n≤8000) (hw:m.1.2.1≤w∧w≤m.1.2.2) (hs:m.2.1≤s∧s≤m.2.2) :
  ((0≤w*n∧w*n≤1600000)∧1≤m.1.1∧m.1.1≤20000)∧(700≤1000 - s∧1000 - s≤1000)∧(0≤(m.1.1+w*n)*(1000 - s)∧(m.1.1+w*n)*(1000 - s)≤1620000000)∧thin m n≤(m.1.1+w*n)*(1000 - s)∧(m.1.1+w*n)*(1000 - s)≤thick m n:=by
 obtain ⟨h1,h2,h3⟩:=M
 have q:=mul_bd (a:=w) (A:=200) ⟨by omega,by omega⟩ (b:=n) (B:=8000) hn
 have a1:=Int.mul_le_mul_of_nonneg_right hw.1 hn.1
 have a2:=Int.mul_le_mul_of_nonneg_right hw.2 hn.1
 have a0:0≤m.1.2.1*n:=Int.mul_nonneg h2.1 hn.1
 have q2:=mul_bd (a:=m.1.1+w*n) (A:=1620000) ⟨by omega,by omega⟩ (b:=1000 - s) (B:=1000) ⟨by omega,by omega⟩
 refine ⟨⟨⟨q.1,by omega⟩,h1⟩,⟨by omega,by omega⟩,⟨q2.1,by omega⟩,?_,?_⟩
 ·unfold thin
  exact Int.mul_le_mul (by omega) (by omega) (by omega) (by omega)
 ·unfold thick
  exact Int.mul_le_mul (by omega) (by omega) (by omega) (by omega)
theorem pickp {s:Span} {k:Int} {l:List Int} (h:(-1000000≤s.1∧s.2≤1000000)∧s.1≤s.2) (hk:0≤k∧k≤1000) (hl:0<l.length) (hb:∀ b∈l,0≤b∧b≤65535):top_TopCentre_1u_p (s,k,l)∧(True∧True) :=
 ⟨⟨⟨⟨⟨h.1.1,by show s.1≤1000000;omega⟩,by show -1000000≤s.2;omega,h.1.2⟩,h.2⟩,hk,hl,hb⟩,trivial,trivial⟩
theorem closes_room {X:Sand} (hs:SandOk X) (h:(slat_Closes (X.1,X.2.1,X.2.2)).1=2):0≤(roomS X).1:=by
 obtain ⟨j,a,b⟩:=X
 unfold slat_Closes at h
 simp only [isJig_two.2 hs,cond_true] at h
 unfold closesV at h
 cases h1:(cond2 (j,a,b)&&slat_conditions_4 (j,a,b)) with
 | false=>rw [h1] at h;simp at h
 | true =>
  rw [h1] at h
  simp only [cond_true] at h
  cases h2:(cond1 (j,a,b)&&slat_conditions_3 (j,a,b)) with
  | false=>rw [h2] at h;simp at h
  | true =>
   simp only [Bool.and_eq_true] at h2
   exact of_decide_eq_true h2.2
theorem closes_err {X:Sand} (hs:SandOk X):(slat_Closes (X.1,X.2.1,X.2.2)).2=0:=by
 obtain ⟨j,a,b⟩:=X
 unfold slat_Closes
 simp only [isJig_two.2 hs,cond_true]
theorem v3 (x:CArgs) (h:k3.pre x):V3 x:=by
 have hby:∀ b∈x.2.2.2.2.2.2.2,0≤b∧b≤65535:=h
 refine ⟨fun h=>?_,fun _=>⟨trivial,rfl⟩,fun h=>?_⟩
 ·simp only [Bool.or_eq_false_iff,decide_eq_false_iff_not] at h
  show x.1.1.length≤big
  simp only [big];omega
 simp only [Bool.or_eq_false_iff,decide_eq_false_iff_not] at h
 obtain ⟨⟨⟨⟨⟨⟨⟨hd8,hl14⟩,hby0⟩,hpr⟩,hk0⟩,hk1⟩,hu0⟩,hu1⟩:=h
 have hpr:pressB x.1=true:=not_iff.2.1 hpr
 have hbl:0<x.2.2.2.2.2.2.2.length:=by
  rcases Nat.eq_zero_or_pos x.2.2.2.2.2.2.2.length with h | h
  ·rw [h] at hby0;cases hby0
  ·exact h
 obtain ⟨W0,W1,W2⟩:=wide_ok (x:=x) hpr ⟨by omega,by omega⟩ ⟨by omega,by omega⟩
 have M:=mount_ok (press_iff.1 hpr) (k:=x.2.1.toNat) (by omega)
 have hu:0≤x.2.2.1∧x.2.2.1≤8000:=⟨by omega,by omega⟩
 have hk:(0:Int)≤x.2.1∧x.2.1<(x.1.1.length:Int):=⟨by omega,by omega⟩
 refine ⟨trivial,fun hw=>?_,fun _=>⟨trivial,fun _=>trivial,fun _=>trivial,fun _=>⟨trivial,rfl⟩,fun hv=>?_⟩⟩
 ·rw [W0] at hw;cases hw
 simp only [Bool.or_eq_false_iff] at hv
 have hs:SandOk (jigT x,x.2.2.2.2.1,x.2.2.2.2.2.1):=⟨not_iff.2.1 hv.1.1,not_iff.2.1 hv.1.2,not_iff.2.1 hv.2⟩
 obtain ⟨hj,ha,hb⟩:=hs.is
 have H:=high_eq hs
 have R:=closes_room hs
 rw [room_eq hs] at R
 have CE:=closes_err hs
 have Md:(0:Int)≤(dieT x).2.1∧(dieT x).2.1≤(dieT x).2.2∧(dieT x).2.2≤200:=M.2.1
 have Ms:(0:Int)≤x.1.2.1.1∧x.1.2.1.1≤x.1.2.1.2∧x.1.2.1.2≤300:=M.2.2
 have jg:(0:Int)≤x.2.2.2.1.1.1∧x.2.2.2.1.1.1≤x.2.2.2.1.1.2∧x.2.2.2.1.1.2≤500:=hj.g
 have js:(-500:Int)≤x.2.2.2.1.2.2.1.1∧x.2.2.2.1.2.2.1.1≤x.2.2.2.1.2.2.1.2∧x.2.2.2.1.2.2.1.2≤500:=hj.s
 have jh:(-500:Int)≤x.2.2.2.1.2.2.2.1.1∧x.2.2.2.1.2.2.2.1.1≤x.2.2.2.1.2.2.2.1.2∧x.2.2.2.1.2.2.2.1.2≤500:=hj.h
 have qat:(1:Int)≤x.2.2.2.2.1.1.1∧x.2.2.2.2.1.1.1≤x.2.2.2.2.1.1.2∧x.2.2.2.2.1.1.2≤10000:=ha.t
 have qad:(0:Int)≤x.2.2.2.2.1.2.1.1∧x.2.2.2.2.1.2.1.1≤x.2.2.2.2.1.2.1.2∧x.2.2.2.2.1.2.1.2≤10000:=ha.d
 have qas:(-500:Int)≤x.2.2.2.2.1.2.2.1.1∧x.2.2.2.2.1.2.2.1.1≤x.2.2.2.2.1.2.2.1.2∧x.2.2.2.2.1.2.2.1.2≤500:=ha.s
 have qap:(-50:Int)≤x.2.2.2.2.1.2.2.2.1∧x.2.2.2.2.1.2.2.2.1≤x.2.2.2.2.1.2.2.2.2∧x.2.2.2.2.1.2.2.2.2≤50:=ha.p
 have qbt:(1:Int)≤x.2.2.2.2.2.1.1.1∧x.2.2.2.2.2.1.1.1≤x.2.2.2.2.2.1.1.2∧x.2.2.2.2.2.1.1.2≤10000:=hb.t
 have qbd:(0:Int)≤x.2.2.2.2.2.1.2.1.1∧x.2.2.2.2.2.1.2.1.1≤x.2.2.2.2.2.1.2.1.2∧x.2.2.2.2.2.1.2.1.2≤10000:=hb.d
 have qbs:(-500:Int)≤x.2.2.2.2.2.1.2.2.1.1∧x.2.2.2.2.2.1.2.2.1.1≤x.2.2.2.2.2.1.2.2.1.2∧x.2.2.2.2.2.1.2.2.1.2≤500:=hb.s
 have qbp:(-50:Int)≤x.2.2.2.2.2.1.2.2.2.1∧x.2.2.2.2.2.1.2.2.2.1≤x.2.2.2.2.2.1.2.2.2.2∧x.2.2.2.2.2.1.2.2.2.2≤50:=hb.p
 have p0:=pick_in (s:=(dieT x).2) Md.2.1 (0+1) x.2.2.2.2.2.2.2
 have e0:(pk0 x).2=1:=rfl
 have p1:=pick_in (s:=x.1.2.1) Ms.2.1 ((pk0 x).2+1) x.2.2.2.2.2.2.2
 have e1:(pk1 x).2=2:=by show (pk0 x).2+1=2;rw [e0];rfl
 have p2:=pick_in (s:=x.2.2.2.2.1.1) qat.2.1 ((pk1 x).2+1) x.2.2.2.2.2.2.2
 have e2:(pk2 x).2=3:=by show (pk1 x).2+1=3;rw [e1];rfl
 have p3:=pick_in (s:=x.2.2.2.2.2.1.1) qbt.2.1 ((pk2 x).2+1) x.2.2.2.2.2.2.2
 have e3:(pk3 x).2=4:=by show (pk2 x).2+1=4;rw [e2];rfl
 have p4:=pick_in (s:=x.2.2.2.2.1.2.1) qad.2.1 ((pk3 x).2+1) x.2.2.2.2.2.2.2
 have e4:(pk4 x).2=5:=by show (pk3 x).2+1=5;rw [e3];rfl
 have p5:=pick_in (s:=x.2.2.2.2.2.1.2.1) qbd.2.1 ((pk4 x).2+1) x.2.2.2.2.2.2.2
 have e5:(pk5 x).2=6:=by show (pk4 x).2+1=6;rw [e4];rfl
 have p6:=pick_in (s:=x.2.2.2.1.1) jg.2.1 ((pk5 x).2+1) x.2.2.2.2.2.2.2
 have e6:(pk6 x).2=7:=by show (pk5 x).2+1=7;rw [e5];rfl
 have p7:=pick_in (s:=x.2.2.2.1.2.2.2.1) jh.2.1 ((pk6 x).2+1) x.2.2.2.2.2.2.2
 have e7:(pk7 x).2=8:=by show (pk6 x).2+1=8;rw [e6];rfl
 have p8:=pick_in (s:=x.2.2.2.2.1.2.2.1) qas.2.1 ((pk7 x).2+1) x.2.2.2.2.2.2.2
 have e8:(pk8 x).2=9:=by show (pk7 x).2+1=9;rw [e7];rfl
 have p9:=pick_in (s:=x.2.2.2.2.1.2.2.2) qap.2.1 ((pk8 x).2+1) x.2.2.2.2.2.2.2
 have e9:(pk9 x).2=10:=by show (pk8 x).2+1=10;rw [e8];rfl
 have p10:=pick_in (s:=x.2.2.2.2.2.1.2.2.1) qbs.2.1 ((pk9 x).2+1) x.2.2.2.2.2.2.2
 have e10:(pk10 x).2=11:=by show (pk9 x).2+1=11;rw [e9];rfl
 have p11:=pick_in (s:=x.2.2.2.2.2.1.2.2.2) qbp.2.1 ((pk10 x).2+1) x.2.2.2.2.2.2.2
 have e11:(pk11 x).2=12:=by show (pk10 x).2+1=12;rw [e10];rfl
 have p12:=pick_in (s:=x.2.2.2.1.2.2.1) js.2.1 ((pk11 x).2+1) x.2.2.2.2.2.2.2
 have e12:(pk12 x).2=13:=by show (pk11 x).2+1=13;rw [e11];rfl
 have c0:=pickp (s:=(dieT x).2) (k:=0) ⟨⟨by omega,by omega⟩,Md.2.1⟩ (by decide) hbl hby
 have c1:=pickp (s:=x.1.2.1) (k:=(pk0 x).2) ⟨⟨by omega,by omega⟩,Ms.2.1⟩ (by rw [e0];decide) hbl hby
 have c2:=pickp (s:=x.2.2.2.2.1.1) (k:=(pk1 x).2) ⟨⟨by omega,by omega⟩,qat.2.1⟩ (by rw [e1];decide) hbl hby
 have c3:=pickp (s:=x.2.2.2.2.2.1.1) (k:=(pk2 x).2) ⟨⟨by omega,by omega⟩,qbt.2.1⟩ (by rw [e2];decide) hbl hby
 have c4:=pickp (s:=x.2.2.2.2.1.2.1) (k:=(pk3 x).2) ⟨⟨by omega,by omega⟩,qad.2.1⟩ (by rw [e3];decide) hbl hby
 have c5:=pickp (s:=x.2.2.2.2.2.1.2.1) (k:=(pk4 x).2) ⟨⟨by omega,by omega⟩,qbd.2.1⟩ (by rw [e4];decide) hbl hby
 have c6:=pickp (s:=x.2.2.2.1.1) (k:=(pk5 x).2) ⟨⟨by omega,by omega⟩,jg.2.1⟩ (by rw [e5];decide) hbl hby
 have c7:=pickp (s:=x.2.2.2.1.2.2.2.1) (k:=(pk6 x).2) ⟨⟨by omega,by omega⟩,jh.2.1⟩ (by rw [e6];decide) hbl hby
 have c8:=pickp (s:=x.2.2.2.2.1.2.2.1) (k:=(pk7 x).2) ⟨⟨by omega,by omega⟩,qas.2.1⟩ (by rw [e7];decide) hbl hby
 have c9:=pickp (s:=x.2.2.2.2.1.2.2.2) (k:=(pk8 x).2) ⟨⟨by omega,by omega⟩,qap.2.1⟩ (by rw [e8];decide) hbl hby
 have c10:=pickp (s:=x.2.2.2.2.2.1.2.2.1) (k:=(pk9 x).2) ⟨⟨by omega,by omega⟩,qbs.2.1⟩ (by rw [e9];decide) hbl hby
 have c11:=pickp (s:=x.2.2.2.2.2.1.2.2.2) (k:=(pk10 x).2) ⟨⟨by omega,by omega⟩,qbp.2.1⟩ (by rw [e10];decide) hbl hby
 have c12:=pickp (s:=x.2.2.2.1.2.2.1) (k:=(pk11 x).2) ⟨⟨by omega,by omega⟩,js.2.1⟩ (by rw [e11];decide) hbl hby
 have L:=lead_in M hu (w:=(pk0 x).1) (s:=(pk1 x).1) p0 p1
 have L:((0≤(pk0 x).1*x.2.2.1∧(pk0 x).1*x.2.2.1≤1600000)∧1≤(dieT x).1∧(dieT x).1≤20000)∧(700≤1000 - (pk1 x).1∧1000 - (pk1 x).1≤1000)∧(0≤((dieT x).1+(pk0 x).1*x.2.2.1)*(1000 - (pk1 x).1)∧((dieT x).1+(pk0 x).1*x.2.2.1)*(1000 - (pk1 x).1)≤1620000000)∧thin (mountV x.1 x.2.1.toNat) x.2.2.1≤((dieT x).1+(pk0 x).1*x.2.2.1)*(1000 - (pk1 x).1)∧((dieT x).1+(pk0 x).1*x.2.2.1)*(1000 - (pk1 x).1)≤thick (mountV x.1 x.2.1.toNat) x.2.2.1:=L
 refine ⟨hk,hk,c0,?_⟩
 have p0:(dieT x).2.1≤(pk0 x).1∧(pk0 x).1≤(dieT x).2.2:=p0
 have p1:x.1.2.1.1≤(pk1 x).1∧(pk1 x).1≤x.1.2.1.2:=p1
 have p2:x.2.2.2.2.1.1.1≤(pk2 x).1∧(pk2 x).1≤x.2.2.2.2.1.1.2:=p2
 have p3:x.2.2.2.2.2.1.1.1≤(pk3 x).1∧(pk3 x).1≤x.2.2.2.2.2.1.1.2:=p3
 have p4:x.2.2.2.2.1.2.1.1≤(pk4 x).1∧(pk4 x).1≤x.2.2.2.2.1.2.1.2:=p4
 have p5:x.2.2.2.2.2.1.2.1.1≤(pk5 x).1∧(pk5 x).1≤x.2.2.2.2.2.1.2.1.2:=p5
 have p6:x.2.2.2.1.1.1≤(pk6 x).1∧(pk6 x).1≤x.2.2.2.1.1.2:=p6
 have p7:x.2.2.2.1.2.2.2.1.1≤(pk7 x).1∧(pk7 x).1≤x.2.2.2.1.2.2.2.1.2:=p7
 have p8:x.2.2.2.2.1.2.2.1.1≤(pk8 x).1∧(pk8 x).1≤x.2.2.2.2.1.2.2.1.2:=p8
 have p9:x.2.2.2.2.1.2.2.2.1≤(pk9 x).1∧(pk9 x).1≤x.2.2.2.2.1.2.2.2.2:=p9
 have p10:x.2.2.2.2.2.1.2.2.1.1≤(pk10 x).1∧(pk10 x).1≤x.2.2.2.2.2.1.2.2.1.2:=p10
 have p11:x.2.2.2.2.2.1.2.2.2.1≤(pk11 x).1∧(pk11 x).1≤x.2.2.2.2.2.1.2.2.2.2:=p11
 have p12:x.2.2.2.1.2.2.1.1≤(pk12 x).1∧(pk12 x).1≤x.2.2.2.1.2.2.1.2:=p12
 generalize (pk0 x).1=y0 at p0 L ⊢
 generalize (pk1 x).1=y1 at p1 L ⊢
 generalize (pk2 x).1=y2 at p2 ⊢
 generalize (pk3 x).1=y3 at p3 ⊢
 generalize (pk4 x).1=y4 at p4 ⊢
 generalize (pk5 x).1=y5 at p5 ⊢
 generalize (pk6 x).1=y6 at p6 ⊢
 generalize (pk7 x).1=y7 at p7 ⊢
 generalize (pk8 x).1=y8 at p8 ⊢
 generalize (pk9 x).1=y9 at p9 ⊢
 generalize (pk10 x).1=y10 at p10 ⊢
 generalize (pk11 x).1=y11 at p11 ⊢
 generalize (pk12 x).1=y12 at p12 ⊢
 obtain ⟨L1,L2,L3,L4,L5⟩:=L
 refine ⟨by simp only [Z.in64];omega,by simp only [Z.in64];omega,c1,by simp only [Z.in64];omega,by simp only [Z.in64];omega,c2,c3,c4,c5,c6,c7,c8,c9,c10,c11,c12,?_⟩
 generalize ((dieT x).1+(y0*x.2.2.1))*(1000 - y1)=lead at *
 have up1:1000*(highS (jigT x,x.2.2.2.2.1,x.2.2.2.2.2.1)).1≤(1000*((((y2 - y3) - y6) - (2*y4)) - (2*y7)))+lead:=by
  rw [H];simp only;omega
 have up2:(1000*((((y2 - y3) - y6) - (2*y4)) - (2*y7)))+lead≤1000*(highS (jigT x,x.2.2.2.2.1,x.2.2.2.2.2.1)).2:=by
  rw [H];simp only;omega
 refine ⟨by simp only [Z.in64];omega,by simp only [Z.in64];omega,by simp only [Z.in64];omega,by simp only [Z.in64];omega,by simp only [Z.in64];omega,by simp only [Z.in64];omega,by simp only [Z.in64];omega,by simp only [Z.in64];omega,trivial,trivial,fun _=>by simp only [Z.in64];omega,fun _=>by simp only [Z.in64];omega,fun _=>by simp only [Z.in64];omega,fun hbad=>?_,fun _=>?_⟩
 ·exfalso
  simp only [Bool.or_eq_true,Bool.and_eq_true,decide_eq_true_eq] at hbad
  rcases hbad with (hb1 | ⟨hb1,hb2⟩) | ⟨hb1,hb2⟩
  ·rw [show (slat_Closes (jigT x,x.2.2.2.2.1,x.2.2.2.2.2.1)).2=0 from CE] at hb1
   cases hb1
  ·have R:=R (eq_of_beq hb1)
   have R:0≤x.2.2.2.2.1.2.1.1+x.2.2.2.2.2.1.2.1.1+x.2.2.2.1.1.1 - (wideT x).1.2:=R
   omega
  ·have hg:=(grades_ok hs rfl (eq_of_beq hb1)).1
   have hg:(slat_Grades (jigT x,x.2.2.2.2.1,x.2.2.2.2.2.1,x.2.2.2.2.2.2.1)).1=gradesV (jigT x,x.2.2.2.2.1,x.2.2.2.2.2.1) x.2.2.2.2.2.2.1:=hg
   have hn:=hj.n
   have hn:1≤x.2.2.2.1.2.2.2.2.2∧x.2.2.2.1.2.2.2.2.2≤10:=hn
   rw [hg] at hb2
   have hb2:=not_iff.1.1 hb2
   have:((gradesV (jigT x,x.2.2.2.2.1,x.2.2.2.2.2.1) x.2.2.2.2.2.2.1).length:Int)=x.2.2.2.1.2.2.2.2.2:=by
    simp only [gradesV,List.length_map,List.length_range]
    omega
   rw [this] at hb2
   simp at hb2
 ·exact loop3 hs (l:=x.2.2.2.2.2.2.1) rfl (y8:=y8) (y9:=y9) (y10:=y10) (y11:=y11) (y12:=y12) ⟨⟨up1,up2⟩,p8,p9,p10,p11,p12⟩ (fun s0=>((((y8+(s0*y9))+y10)+(s0*y11)) - (2*y12))) (fun _=>rfl) (fun s0=>slat_Off (jigT x,x.2.2.2.2.1,x.2.2.2.2.2.1,s0)) (fun _=>rfl) x.2.2.2.1.2.2.2.2.2 rfl trivial rfl rfl rfl ⟨trivial,rfl⟩
end Go.Tc
