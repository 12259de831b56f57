/-
  Chapter 6: XrayMore.
-/
import Derived.Test.YtkeeaadooechgaaXrQ2
set_option linter.all false
set_option maxRecDepth 100000
set_option maxHeartbeats 4000000
set_option linter.unusedVariables false
namespace Go.Xr
open Go Go.Sx
theorem same_fits {c:Crate} {l l':List Look} (h:∀ t,l'.all (fitB t)=l.all (fitB t)):fitsL c l'=fitsL c l:=by
 unfold fitsL
 congr 1
 funext t
 exact h t
theorem same_pict {c:Crate} {l l':List Look} (h:∀ t,l'.all (fitB t)=l.all (fitB t)):pictV c l'=pictV c l:=by
 unfold pictV
 rw [show (fun t=>l'.all (fitB t))=fun t=>l.all (fitB t) from funext h]
theorem same_went {c:Crate} {l l':List Look} (hw:Went c l) (h:∀ t,l'.all (fitB t)=l.all (fitB t)) (hl:(l'.length:Int)≤40) (hk:l'.all (lookB c)=true):Went c l':=⟨hw.crate,hl,hk,by rw [same_fits h];exact hw.ne⟩
theorem all_same {α:Type} {l l':List α} (h:∀ x,x∈l'↔x∈l) (p:α→Bool):l'.all p=l.all p:=by
 refine bool_ext ?_
 rw [List.all_eq_true,List.all_eq_true]
 exact ⟨fun hh x hx=>hh x ((h x).2 hx),fun hh x hx=>hh x ((h x).1 hx)⟩
def turnL (l:List Look) (n:Int):List Look:=(idx l.length).map fun i=>l.getD (Int.tmod (i+n) (l.length:Int)).toNat (0,0,0)
theorem turn_mem {l:List Look} {n:Int} (h0:0≤n) (x:Look):x∈turnL l n↔x∈l:=by
 unfold turnL
 rw [List.mem_map]
 constructor
 ·rintro ⟨i,hi,rfl⟩
  have hi:=idx_mem.1 hi
  obtain ⟨h1,h2⟩:=mod_at (n:=i+n) (m:=(l.length:Int)) (by omega) (by omega)
  exact getD_mem l _ _ (by omega)
 ·intro hx
  obtain ⟨k,hk,rfl⟩:=List.mem_iff_getElem.1 hx
  have hpos:(0:Int)<(l.length:Int):=by omega
  obtain ⟨m1,m2⟩:=mod_at (n:=n) (m:=(l.length:Int)) h0 hpos
  obtain ⟨i,hi0,hi1,hi2⟩:∃ i:Int,0≤i∧i<(l.length:Int)∧Int.tmod (i+n) (l.length:Int)=(k:Int):=by
   have e1:Int.tmod n (l.length:Int)=n % (l.length:Int):=Int.tmod_eq_emod_of_nonneg h0
   have key:∀ i:Int,0≤i→i+n % (l.length:Int)=(k:Int)∨i+n % (l.length:Int)=(k:Int)+(l.length:Int)→Int.tmod (i+n) (l.length:Int)=(k:Int):=by
    intro i hi hor
    rw [Int.tmod_eq_emod_of_nonneg (by omega)]
    have hd:=Int.emod_add_mul_ediv n (l.length:Int)
    rcases hor with h | h
    ·have e2:i+n=(k:Int)+(l.length:Int)*(n / (l.length:Int)):=by omega
     rw [e2,Int.add_mul_emod_self_left]
     exact Int.emod_eq_of_lt (by omega) (by omega)
    ·have e2:i+n=(k:Int)+(l.length:Int)*(n / (l.length:Int)+1):=by rw [Int.mul_add];omega
     rw [e2,Int.add_mul_emod_self_left]
     exact Int.emod_eq_of_lt (by omega) (by omega)
   rw [e1] at m1 m2
   by_cases h:n % (l.length:Int)≤(k:Int)
   ·exact ⟨(k:Int) - n % (l.length:Int),by omega,by omega,key _ (by omega) (.inl (by omega))⟩
   ·exact ⟨(k:Int)+(l.length:Int) - n % (l.length:Int),by omega,by omega,key _ (by omega) (.inr (by omega))⟩
  refine ⟨i,idx_mem.2 ⟨hi0,hi1⟩,?_⟩
  rw [hi2,Int.toNat_natCast]
  simp [List.getD,hk]
theorem noneLook {c:Crate} (hc:CrateOk c) {n:Int} (h0:0≤n):lookB c (Int.tmod n (c.1.length:Int),Int.tmod n c.2.1,2)=true∧∀ t,fitB t (Int.tmod n (c.1.length:Int),Int.tmod n c.2.1,2)=true:=by
 have h1:=hc.r1
 have h2:=hc.c1
 obtain ⟨a1,a2⟩:=mod_at (n:=n) (m:=(c.1.length:Int)) h0 (by omega)
 obtain ⟨b1,b2⟩:=mod_at (n:=n) (m:=c.2.1) h0 (by omega)
 refine ⟨?_,fun _=>rfl⟩
 have hp:placeB c (Int.tmod n (c.1.length:Int)) (Int.tmod n c.2.1)=true:=by
  simp only [placeB,Bool.and_eq_true,inB_iff]
  exact ⟨⟨a1,by omega⟩,b1,by omega⟩
 unfold lookB
 rw [hp];rfl
theorem same_results {c:Crate} {l l':List Look} (hw:Went c l) (h:∀ t,l'.all (fitB t)=l.all (fitB t)) (hl:(l'.length:Int)≤40) (hk:l'.all (lookB c)=true) :
  xray_Count (c,l')=xray_Count (c,l)∧xray_Causes (c,l')=xray_Causes (c,l):=by
 obtain ⟨a1,a2⟩:=count_good hw
 obtain ⟨b1,b2⟩:=count_good (same_went hw h hl hk)
 rw [a1,a2,b1,b2,same_pict h]
 exact ⟨rfl,rfl⟩
theorem v9 (x:Crate × (List Look) × Look × Int) (hp:k9.pre x):V9 x:=by
 obtain ⟨c,l,m,n⟩:=x
 have hn:0≤n∧n≤255:=hp
 refine ⟨fun _=>⟨trivial,rfl⟩,fun hg=>?_⟩
 have hg:(decide ((16:Int)<(c.1.length:Int))||decide ((38:Int)<(l.length:Int)))=false:=hg
 rw [Bool.or_eq_false_iff] at hg
 have g1:=of_decide_eq_false hg.1
 have g2:=of_decide_eq_false hg.2
 have hpre:∀ l':List Look,(l'.length:Int)≤1000→xray_Count_p (c,l'):=fun l' hl'=>⟨by show c.1.length≤big;simp only [big];omega,by show l'.length≤big;simp only [big];omega⟩
 refine ⟨hpre l (by omega),hpre l (by omega),fun hb=>⟨fun _=>trivial,?_⟩,fun hb=>?_⟩
 ·have hb:openE c l true≠0:=by simpa using (show (!(openE c l true==0))=true from hb)
  obtain ⟨e1,e2⟩:=count_bad hb
  show (_:Bool)=true
  simp only [e1,e2]
  simp [law06u_alive]
 have hw:Went c l:=(went_of (b:=true) (by simpa using (show (!(openE c l true==0))=false from hb))).1
 have hc:=hw.crate
 have hr1:=hc.r1
 have hr8:=hc.r8
 have hc1:=hc.c1
 have hc8:=hc.c8
 have hP:=pict_is hc l
 have hok:=pict_ok hc l
 obtain ⟨e1,e2⟩:=count_good hw
 have hcr:ref06u_Crate c=true:=crate_iff.2 hc
 have room:∀ l':List Look,(l'.length:Int)≤1000→Z.roomy 3 ((l'.length:Nat):Int):=fun l' hl'=>roomy_of (by decide) (by decide) (by omega)
 have eR:∀ v:Look,(List.replicate 1 ((0:Int),(0:Int),(0:Int))).set 0 v=[v]:=fun _=>rfl
 have eC:((List.replicate 0 ((0:Int),(0:Int),(0:Int)))++l)=l:=rfl
 have hrl:((l++[m]).length:Int)≤1000:=by rw [List.length_append];simp only [List.length_cons,List.length_nil];omega
 dsimp only
 simp only [eR,eC]
 have hRok:=pict_ok hc (l++[m])
 have hRP:=pict_is hc (l++[m])
 have rich0:(xray_Count (c,l++[m])).2=openE c (l++[m]) true:=rfl
 have richW:((xray_Count (c,l++[m])).2==0)=true→Went c (l++[m]):=fun hz=>(went_of (b:=true) (by rw [rich0] at hz;simpa using hz)).1
 have hsub:∀ t∈fitsL c (l++[m]),t∈fitsL c l∧fitB t m=true:=fun t ht=>by
  rw [fits_app] at ht
  exact List.mem_filter.1 ht
 refine ⟨hpre l (by omega) |>.1,fun hbad=>?_,fun _=>⟨room l (by omega),room _ hrl,hpre _ hrl,hpre _ hrl,fun hh=>?_,fun hh=>?_,fun hh=>?_,fun hh=>?_,fun hbad=>?_,fun _=>⟨fun hj=>⟨hpre _ hrl,fun hbad=>?_,fun _=>?_⟩,fun _=>?_⟩⟩⟩
 ·have hbad:((!ref06u_Crate c)||(!((xray_Causes (c,l)).2==0)))=true:=hbad
  rw [hcr,e2] at hbad
  cases hbad
 ·obtain ⟨_,f2⟩:=count_good (richW hh.2)
  rw [f2,e2]
  exact ⟨hRok.can.1.1,hok.can.1.1⟩
 ·obtain ⟨_,f2⟩:=count_good (richW hh.2)
  rw [f2,e2]
  exact ⟨hRok.can.2.1,hok.can.2.1⟩
 ·obtain ⟨_,f2⟩:=count_good (richW hh.2)
  rw [f2,e2]
  exact ⟨hok.sure.1.1,hRok.sure.1.1⟩
 ·obtain ⟨_,f2⟩:=count_good (richW hh.2)
  rw [f2,e2]
  exact ⟨hok.sure.2.1,hRok.sure.2.1⟩
 ·exfalso
  cases hz:((xray_Count (c,l++[m])).2==0) with
  | false =>
   rw [hz,Bool.false_and] at hbad
   cases hbad
  | true =>
   have hW:=richW hz
   obtain ⟨f1,f2⟩:=count_good hW
   obtain ⟨ta,ha1,ha2⟩:=hRP.loE hW.ne
   obtain ⟨tb,hb1,hb2⟩:=hRP.hiE hW.ne
   have q1:=hP.lo ta (hsub ta ha1).1
   have q2:=hP.hi tb (hsub tb hb1).1
   have z1:=sub_zero (a:=(pictV c (l++[m])).1.1) (b:=(pictV c l).1.1) fun k hk=>by
    rw [hRP.canR,List.any_eq_true] at hk
    obtain ⟨t,h1,h2⟩:=hk
    rw [hP.canR]
    exact List.any_eq_true.2 ⟨t,(hsub t h1).1,h2⟩
   have z2:=sub_zero (a:=(pictV c (l++[m])).1.2.1) (b:=(pictV c l).1.2.1) fun k hk=>by
    rw [hRP.canC,List.any_eq_true] at hk
    obtain ⟨t,h1,h2⟩:=hk
    rw [hP.canC]
    exact List.any_eq_true.2 ⟨t,(hsub t h1).1,h2⟩
   have z3:=sub_zero (a:=(pictV c l).1.2.2.1) (b:=(pictV c (l++[m])).1.2.2.1) fun k hk=>by
    rw [hP.sureR hw.ne,List.all_eq_true] at hk
    rw [hRP.sureR hW.ne]
    exact List.all_eq_true.2 fun t ht=>hk t (hsub t ht).1
   have z4:=sub_zero (a:=(pictV c l).1.2.2.2) (b:=(pictV c (l++[m])).1.2.2.2) fun k hk=>by
    rw [hP.sureC hw.ne,List.all_eq_true] at hk
    rw [hRP.sureC hW.ne]
    exact List.all_eq_true.2 fun t ht=>hk t (hsub t ht).1
   have d1:decide ((pictV c (l++[m])).2.1.1<(pictV c l).2.1.1)=false:=decide_eq_false (by omega)
   have d2:decide ((pictV c l).2.1.2<(pictV c (l++[m])).2.1.2)=false:=decide_eq_false (by omega)
   simp only [e1,e2,f1,f2,z1,z2,z3,z4,d1,d2] at hbad
   revert hbad
   simp
 ·exfalso
  have hj:(((xray_Count (c,l++[m])).2==0)&&(m.2.2==0))=true:=hj
  rw [Bool.and_eq_true] at hj
  have hW:=richW hj.1
  have hlk:=List.all_eq_true.1 hW.looks m (by simp)
  have hpl:placeB c m.1 m.2.1=true:=by
   unfold lookB at hlk
   rw [Bool.and_eq_true] at hlk
   exact hlk.1
  have hjv:=((judge_vals (c:=c) (l:=l++[m]) m.1 m.2.1).2 hW).1 hpl
  have hje:=judge_eq (l:=l++[m]) hc hpl
  have h0:((((fitsL c (l++[m])).countP fun t=>badB t m.1 m.2.1:Nat):Int)==0)=true:=by
   have:(fitsL c (l++[m])).countP (fun t=>badB t m.1 m.2.1)=0:=by
    rw [List.countP_eq_zero]
    intro t ht
    have:=(hsub t ht).2
    unfold fitB at this
    rw [hj.2,cond_true] at this
    simpa using this
   rw [this];rfl
  rw [h0,cond_true] at hje
  rw [hjv] at hbad
  dsimp only at hbad
  rw [hje] at hbad
  cases hbad
 all_goals
  refine ⟨fun s=>(0≤s.2∧s.2≤(l.length:Int))∧s.1=((idx l.length).take s.2.toNat).map fun i=>l.getD (Int.tmod (i+n) (l.length:Int)).toNat (0,0,0),fun s=>((l.length:Int) - s.2).toNat,⟨⟨by show (0:Int)≤0;omega,by show (0:Int)≤_;omega⟩,rfl⟩,?_⟩
  rintro ⟨g,i⟩ ⟨⟨i1,i2⟩,hgd⟩
  simp only at i1 i2 hgd
  subst hgd
  refine ⟨fun hlt=>?_,fun hlt=>?_⟩
  ·have hlt:i<(l.length:Int):=of_decide_eq_true hlt
   have et:=idx_take (n:=l.length) (k:=i) i1 hlt
   obtain ⟨m1,m2⟩:=mod_at (n:=i+n) (m:=(l.length:Int)) (by omega) (by omega)
   refine ⟨by simp only [Z.in64];omega,by show (l.length:Int)≠0;omega,⟨m1,m2⟩,room _ ?_,by simp only [Z.in64];omega,by first | rfl | trivial,by first | rfl | trivial,by first | rfl | trivial,by first | rfl | trivial,by first | rfl | trivial,by first | rfl | trivial,⟨⟨by show 0≤i+1;omega,by show i+1≤_;omega⟩,?_⟩,by show ((l.length:Int) - (i+1)).toNat<((l.length:Int) - i).toNat;omega⟩
   ·simp only [List.length_append,List.length_cons,List.length_nil,List.length_map,List.length_take,idx_len]
    omega
   ·show _=((idx l.length).take (i+1).toNat).map fun i=>l.getD (Int.tmod (i+n) (l.length:Int)).toNat (0,0,0)
    rw [et,List.map_append]
    try rfl
  ·have hlt:¬ i<(l.length:Int):=of_decide_eq_false hlt
   rw [take_all (by omega)]
   have hturn:((idx l.length).map fun i=>l.getD (Int.tmod (i+n) (l.length:Int)).toNat (0,0,0))=turnL l n:=rfl
   simp only [hturn]
   have htl:(turnL l n).length=l.length:=by unfold turnL;rw [List.length_map,idx_len]
   have htm:=turn_mem (l:=l) hn.1
   obtain ⟨nl1,nl2⟩:=noneLook hc hn.1
   refine ⟨fun hpos=>?_,fun hpos=>?_⟩
   ·have hpos:(0:Int)<(l.length:Int):=of_decide_eq_true hpos
    obtain ⟨m1,m2⟩:=mod_at (n:=n) (m:=(l.length:Int)) hn.1 hpos
    have hmm:=getD_mem l ((0,0,0):Look) (Int.tmod n (l.length:Int)).toNat (by omega)
    have hfit:∀ t,((turnL l n++[l.getD (Int.tmod n (l.length:Int)).toNat (0,0,0)])++[((Int.tmod n (c.1.length:Int)),(Int.tmod n c.2.1),2)]).all (fitB t)=l.all (fitB t):=by
     intro t
     rw [List.all_append,List.all_cons,nl2,List.all_nil,Bool.and_true,Bool.and_true]
     refine all_same (fun z=>?_) _
     rw [List.mem_append,htm,List.mem_singleton]
     exact ⟨fun h=>h.elim id fun h=>h▸hmm,.inl⟩
    have hlook:((turnL l n++[l.getD (Int.tmod n (l.length:Int)).toNat (0,0,0)])++[((Int.tmod n (c.1.length:Int)),(Int.tmod n c.2.1),2)]).all (lookB c)=true:=by
     rw [List.all_append,List.all_cons,nl1,List.all_nil,Bool.and_true,Bool.and_true,←hw.looks]
     refine all_same (fun z=>?_) _
     rw [List.mem_append,htm,List.mem_singleton]
     exact ⟨fun h=>h.elim id fun h=>h▸hmm,.inl⟩
    have hlen:(((turnL l n++[l.getD (Int.tmod n (l.length:Int)).toNat (0,0,0)])++[((Int.tmod n (c.1.length:Int)),(Int.tmod n c.2.1),2)]).length:Int)≤40:=by
     simp only [List.length_append,List.length_cons,List.length_nil,htl];omega
    obtain ⟨r1,r2⟩:=same_results hw hfit hlen hlook
    refine ⟨by show (l.length:Int)≠0;omega,⟨m1,m2⟩,room _ ?_,by show (c.1.length:Int)≠0;omega,by show c.2.1≠0;omega,room _ (by omega),hpre _ (by omega),hpre _ (by omega),fun _=>trivial,?_⟩
    ·simp only [List.length_append,List.length_cons,List.length_nil,htl]
     omega
    ·show (_:Bool)=true
     simp only [r1,r2,e1,e2]
     simp [law06u_alive]
   ·have hpos:¬ (0:Int)<(l.length:Int):=of_decide_eq_false hpos
    have hfit:∀ t,(turnL l n++[((Int.tmod n (c.1.length:Int)),(Int.tmod n c.2.1),2)]).all (fitB t)=l.all (fitB t):=by
     intro t
     rw [List.all_append,List.all_cons,nl2,List.all_nil,Bool.and_true,Bool.and_true]
     exact all_same htm _
    have hlook:(turnL l n++[((Int.tmod n (c.1.length:Int)),(Int.tmod n c.2.1),2)]).all (lookB c)=true:=by
     rw [List.all_append,List.all_cons,nl1,List.all_nil,Bool.and_true,Bool.and_true,←hw.looks]
     exact all_same htm _
    have hlen:((turnL l n++[((Int.tmod n (c.1.length:Int)),(Int.tmod n c.2.1),2)]).length:Int)≤40:=by
     simp only [List.length_append,List.length_cons,List.length_nil,htl];omega
    obtain ⟨r1,r2⟩:=same_results hw hfit hlen hlook
    refine ⟨by show (c.1.length:Int)≠0;omega,by show c.2.1≠0;omega,room _ (by omega),hpre _ (by omega),hpre _ (by omega),fun _=>trivial,?_⟩
    show (_:Bool)=true
    simp only [r1,r2,e1,e2]
    simp [law06u_alive]
end Go.Xr
