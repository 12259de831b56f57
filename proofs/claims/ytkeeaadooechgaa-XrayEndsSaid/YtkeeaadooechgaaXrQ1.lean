/-
  Chapter 6: XrayEnds.
-/
import Derived.Test.YtkeeaadooechgaaXrP14
set_option linter.all false
set_option maxRecDepth 100000
set_option maxHeartbeats 4000000
set_option linter.unusedVariables false
namespace Go.Xr
open Go Go.Sx
theorem great_len {c:Crate} {n:Int} (h:law06u_great (c,n)=false):c.1.length≤16:=by
 unfold law06u_great at h
 rw [Bool.or_eq_false_iff] at h
 have:=of_decide_eq_false h.1
 simp only at this
 omega
theorem fits_app (c:Crate) (l:List Look) (m:Look):fitsL c (l++[m])=(fitsL c l).filter fun t=>fitB t m:=by
 unfold fitsL truthsV
 rw [List.filter_flatMap]
 congr 1
 funext a
 rw [List.filter_map,List.filter_filter]
 congr 1
 apply List.filter_congr
 intro b _
 show (l++[m]).all (fitB (a,b))=(fitB (a,b) m&&l.all (fitB (a,b)))
 rw [List.all_append]
 simp [Bool.and_comm]
theorem judge_eq {c:Crate} {l:List Look} (hc:CrateOk c) {r k:Int} (hp:placeB c r k=true) :
  judgeV c l r k=cond ((((fitsL c l).countP fun t=>badB t r k:Nat):Int)==0) 0 (cond ((((fitsL c l).countP fun t=>badB t r k:Nat):Int)==((fitsL c l).length:Int)) 2 1):=by
 have hP:=pict_is hc l
 simp only [placeB,Bool.and_eq_true,inB_iff] at hp
 have hsp:=hP.spots r.toNat k.toNat (by omega) (by omega)
 rw [show ((r.toNat:Nat):Int)=r by omega,show ((k.toNat:Nat):Int)=k by omega] at hsp
 unfold judgeV
 rw [hsp,hP.cnt]
theorem empty_filter {α:Type} (p:α→Bool) (l:List α):(l.filter p).isEmpty=(((l.countP p:Nat):Int)==0):=by
 rw [List.countP_eq_length_filter]
 cases l.filter p with
 | nil=>rfl
 | cons a m =>
  have:((((a::m).length:Nat):Int)==0)=false:=by simp;omega
  rw [this];rfl
theorem countP_not' {α:Type} (p:α→Bool) (l:List α):l.countP (fun a=>!p a)+l.countP p=l.length:=by
 induction l with
 | nil=>rfl
 | cons a l ih =>
  simp only [List.countP_cons,List.length_cons]
  cases p a<;>simp<;>omega
theorem ones_bits {n k:Nat}:hasB ((1*2^(Int.toNat (n:Int))) - 1) (k:Nat)=decide (k<n):=by
 have e:(((1*2^(Int.toNat (n:Int))) - 1:Int)).toNat=2^n - 1:=by
  rw [Int.one_mul,Int.toNat_natCast]
  have:(2:Int)^n=((2^n:Nat):Int):=by simp
  rw [this]
  have:0<2^n:=Nat.pow_pos (by decide)
  omega
 unfold hasB
 rw [e,Int.toNat_natCast,Nat.testBit_two_pow_sub_one]
theorem ones_small {n:Nat} (h:n≤8):smallSet ((1*2^(Int.toNat (n:Int))) - 1):=by
 rw [Int.one_mul,Int.toNat_natCast]
 have e:(2:Int)^n=((2^n:Nat):Int):=by simp
 have h1:=pow_le8 h
 have h2:0<2^n:=Nat.pow_pos (by decide)
 rw [e]
 simp only [smallSet]
 omega
theorem bit_lt {s:Int} {n k:Nat} (h0:0≤s) (h:s<2^n) (hb:hasB s (k:Nat)=true):k<n:=by
 refine Nat.lt_of_not_le fun hle=>?_
 have e:(2:Int)^n=((2^n:Nat):Int):=by simp
 rw [e] at h
 have h1:s.toNat<2^k:=Nat.lt_of_lt_of_le (show s.toNat<2^n by omega) (Nat.pow_le_pow_right (by decide) hle)
 unfold hasB at hb
 rw [Int.toNat_natCast,Nat.testBit_lt_two_pow h1] at hb
 cases hb
theorem count_bad {c:Crate} {l:List Look} (h:openE c l true≠0):xray_Count (c,l)=((0,0),openE c l true)∧xray_Causes (c,l)=((0,0,0,0),openE c l true):=by
 have e:(openE c l true==0)=false:=by simpa using h
 unfold xray_Count xray_Causes
 exact ⟨by rw [e];rfl,by rw [e];rfl⟩
theorem count_good {c:Crate} {l:List Look} (h:Went c l):xray_Count (c,l)=((pictV c l).2.1,0)∧xray_Causes (c,l)=((pictV c l).1,0):=by
 have e:=went_zero h
 unfold xray_Count xray_Causes
 exact ⟨by rw [e];rfl,by rw [e];rfl⟩
theorem judge_vals {c:Crate} {l:List Look} (r k:Int) :
  (openE c l true≠0→(xray_Judge (c,l,r,k)).1=0∧(xray_Judge (c,l,r,k)).2≠0) ∧
  (Went c l→(placeB c r k=true→xray_Judge (c,l,r,k)=(judgeV c l r k,0))∧(placeB c r k=false→xray_Judge (c,l,r,k)=(0,2))):=by
 have hj:xray_Judge (c,l,r,k)=(cond (openE c l (placeE c r k)==0) (judgeV c l r k) 0,openE c l (placeE c r k)):=rfl
 refine ⟨fun hb=>?_,fun hw=>⟨fun hp=>?_,fun hp=>?_⟩⟩
 ·have hne:openE c l (placeE c r k)≠0:=fun h0=>by
   obtain ⟨hw,_⟩:=went_of h0
   exact hb (went_zero hw)
  rw [hj,show (openE c l (placeE c r k)==0)=false by simpa using hne]
  exact ⟨rfl,hne⟩
 ·rw [hj,place_eq hw.crate,hp,went_zero hw];rfl
 ·have e:=(openE_cases c l (placeE c r k)).2.2.1 (crate_iff.2 hw.crate) (by have:=hw.len;omega) (.inl (by rw [place_eq hw.crate];exact hp))
  rw [hj,e];rfl
theorem v7 (x:Crate × (List Look) × Int × Int) (_:k7.pre x):V7 x:=by
 obtain ⟨c,l,r,k⟩:=x
 refine ⟨trivial,fun _=>⟨trivial,rfl⟩,fun hg=>?_⟩
 have hg:(law06u_great (c,16)||decide ((40:Int)≤(l.length:Int)))=false:=hg
 rw [Bool.or_eq_false_iff] at hg
 have h16:=great_len hg.1
 have hl:=of_decide_eq_false hg.2
 have hpre:c.1.length≤big∧l.length≤big:=⟨by simp only [big];omega,by simp only [big];omega⟩
 refine ⟨hpre,hpre,hpre,fun hb=>⟨fun _=>trivial,?_⟩,fun hb=>?_⟩
 ·have hb:openE c l true≠0:=by simpa using (show (!(openE c l true==0))=true from hb)
  obtain ⟨e1,e2⟩:=count_bad hb
  obtain ⟨e3,e4⟩:=(judge_vals (c:=c) (l:=l) r k).1 hb
  show (_:Bool)=true
  simp only [e1,e2,e3]
  simp [e4,law06u_alive]
 ·have hw:Went c l:=(went_of (b:=true) (by simpa using (show (!(openE c l true==0))=false from hb))).1
  have hc:=hw.crate
  have hr1:=hc.r1
  have hr8:=hc.r8
  have hc1:=hc.c1
  have hc8:=hc.c8
  have hP:=pict_is hc l
  have hok:=pict_ok hc l
  have hlen:=fits_len hc l
  have hne:=hw.ne
  obtain ⟨e1,e2⟩:=count_good hw
  have hcr:ref06u_Crate c=true:=crate_iff.2 hc
  have hT:ref06u_Truths (c,l)=fitsL c l:=rfl
  have hsm:∀ t∈fitsL c l,smallT t∧t.1<2^c.1.length∧t.2<2^c.2.1.toNat:=fun t ht=>⟨fits_small hc ht,(fits_mem.1 ht).1.1.2,(fits_mem.1 ht).2.1.1.2⟩
  have hnC:(1*2^(Int.toNat c.2.1):Int)=1*2^(Int.toNat ((c.2.1.toNat:Nat):Int)):=by rw [Int.toNat_natCast]
  have oR:=ones_small (n:=c.1.length) hr8
  have oC:=ones_small (n:=c.2.1.toNat) (by omega)
  refine ⟨hpre.1,fun hbad=>?_,fun _=>⟨shl_ok (by show (0:Int)≤(c.1.length:Int);omega) (by show (c.1.length:Int)<62;omega),?_,shl_ok (by show 0≤c.2.1;omega) (by show c.2.1<62;omega),?_,⟨hcr,hw.looks,hpre.2⟩,?_⟩⟩
  ·have hbad:((!ref06u_Crate c)||(!((xray_Causes (c,l)).2==0)))=true:=hbad
   rw [hcr,e2] at hbad
   cases hbad
  ·simp only [smallSet] at oR
   simp only [Z.in64];omega
  ·rw [←hnC] at oC
   simp only [smallSet] at oC
   show Z.in64 ((1*2^(Int.toNat c.2.1):Int) - 1)
   simp only [Z.in64];omega
  ·dsimp only
   rw [hT,hnC]
   obtain ⟨lo,hlo⟩:∃ a,a=(pictV c l).2.1.1:=⟨_,rfl⟩
   obtain ⟨hi,hhi⟩:∃ a,a=(pictV c l).2.1.2:=⟨_,rfl⟩
   refine ⟨fun s=>(0≤s.2.2.2.2.2.2.2∧s.2.2.2.2.2.2.2≤((fitsL c l).length:Int)) ∧
    (s.1=((fitsL c l).take s.2.2.2.2.2.2.2.toNat).any (fun t=>manyV t c==(pictV c l).2.1.1)∧s.2.1=((fitsL c l).take s.2.2.2.2.2.2.2.toNat).any (fun t=>manyV t c==(pictV c l).2.1.2)∧s.2.2.1=decide (0<s.2.2.2.2.2.2.2)) ∧
    ((smallSet s.2.2.2.1∧∀ n:Nat,hasB s.2.2.2.1 (n:Nat)=((fitsL c l).take s.2.2.2.2.2.2.2.toNat).any fun t=>hasB t.1 (n:Nat))∧(smallSet s.2.2.2.2.1∧∀ n:Nat,hasB s.2.2.2.2.1 (n:Nat)=((fitsL c l).take s.2.2.2.2.2.2.2.toNat).any fun t=>hasB t.2 (n:Nat)) ∧
     (smallSet s.2.2.2.2.2.1∧∀ n:Nat,hasB s.2.2.2.2.2.1 (n:Nat)=(decide (n<c.1.length)&&((fitsL c l).take s.2.2.2.2.2.2.2.toNat).all fun t=>hasB t.1 (n:Nat)))∧(smallSet s.2.2.2.2.2.2.1∧∀ n:Nat,hasB s.2.2.2.2.2.2.1 (n:Nat)=(decide (n<c.2.1.toNat)&&((fitsL c l).take s.2.2.2.2.2.2.2.toNat).all fun t=>hasB t.2 (n:Nat)))),
    fun s=>(((fitsL c l).length:Int) - s.2.2.2.2.2.2.2).toNat,⟨⟨Int.le_refl _,by show (0:Int)≤_;omega⟩,⟨rfl,rfl,rfl⟩,⟨⟨Int.le_refl _,by show (0:Int)≤255;omega⟩,fun n=>has_zero _⟩,⟨⟨Int.le_refl _,by show (0:Int)≤255;omega⟩,fun n=>has_zero _⟩,⟨oR,fun n=>?_⟩,oC,fun n=>?_⟩,?_⟩
   ·show hasB ((1*2^(Int.toNat ((c.1.length:Nat):Int))) - 1) (n:Nat)=(decide (n<c.1.length)&&true)
    rw [ones_bits,Bool.and_true]
   ·show hasB ((1*2^(Int.toNat ((c.2.1.toNat:Nat):Int))) - 1) (n:Nat)=(decide (n<c.2.1.toNat)&&true)
    rw [ones_bits,Bool.and_true]
   rintro ⟨low,high,some,rows,cols,all,both,i⟩ ⟨⟨i1,i2⟩,⟨hlow,hhigh,hsome⟩,⟨sr,hr⟩,⟨sk,hk⟩,⟨sa,ha⟩,sb,hbo⟩
   simp only at i1 i2 hlow hhigh hsome sr hr sk hk sa ha sb hbo
   refine ⟨fun hlt=>?_,fun hlt=>?_⟩
   ·have hlt:i<((fitsL c l).length:Int):=of_decide_eq_true hlt
    have hm:=getD_mem' (fitsL c l) (0,0) i i1 hlt
    have et:=take_one (fitsL c l) (0,0) i i1 hlt
    generalize (fitsL c l).getD i.toNat (0,0)=t at hm et
    obtain ⟨hst,hb1,hb2⟩:=hsm t hm
    have q1:=hP.lo t hm
    have q2:=hP.hi t hm
    refine ⟨⟨i1,hlt⟩,⟨hcr,hst,hb2⟩,fun hbad=>?_,fun _=>⟨⟨sr.1,hst.1.1⟩,⟨sk.1,hst.2.1⟩,⟨sa.1,hst.1.1⟩,⟨sb.1,hst.2.1⟩,by simp only [Z.in64];omega,by first | rfl | trivial,by first | rfl | trivial,⟨⟨by show 0≤i+1;omega,by show i+1≤_;omega⟩,⟨?_,?_,?_⟩,⟨small_or sr hst.1,fun n=>?_⟩,⟨small_or sk hst.2,fun n=>?_⟩,⟨small_and sa,fun n=>?_⟩,small_and sb,fun n=>?_⟩,by show (((fitsL c l).length:Int) - (i+1)).toNat<(((fitsL c l).length:Int) - i).toNat;omega⟩⟩
    ·rw [e1] at hbad
     have hbad:(decide (manyV t c<(pictV c l).2.1.1)||decide ((pictV c l).2.1.2<manyV t c))=true:=hbad
     rw [decide_eq_false (by omega),decide_eq_false (by omega)] at hbad
     cases hbad
    ·show (low||(manyV t c==((xray_Count (c,l)).1).1))=((fitsL c l).take (i+1).toNat).any (fun t=>manyV t c==(pictV c l).2.1.1)
     rw [e1,et,List.any_append,hlow];simp
    ·show (high||(manyV t c==((xray_Count (c,l)).1).2))=((fitsL c l).take (i+1).toNat).any (fun t=>manyV t c==(pictV c l).2.1.2)
     rw [e1,et,List.any_append,hhigh];simp
    ·show true=decide (0<i+1)
     rw [decide_eq_true (by omega)]
    ·show hasB (orI rows t.1) (n:Nat)=((fitsL c l).take (i+1).toNat).any fun t=>hasB t.1 (n:Nat)
     rw [has_or,hr,et,List.any_append];simp
    ·show hasB (orI cols t.2) (n:Nat)=((fitsL c l).take (i+1).toNat).any fun t=>hasB t.2 (n:Nat)
     rw [has_or,hk,et,List.any_append];simp
    ·show hasB (andI all t.1) (n:Nat)=(decide (n<c.1.length)&&((fitsL c l).take (i+1).toNat).all fun t=>hasB t.1 (n:Nat))
     rw [has_and,ha,et,List.all_append,Bool.and_assoc];simp
    ·show hasB (andI both t.2) (n:Nat)=(decide (n<c.2.1.toNat)&&((fitsL c l).take (i+1).toNat).all fun t=>hasB t.2 (n:Nat))
     rw [has_and,hbo,et,List.all_append,Bool.and_assoc];simp
   ·have hlt:¬ i<((fitsL c l).length:Int):=of_decide_eq_false hlt
    have hfull:(fitsL c l).take i.toNat=fitsL c l:=List.take_of_length_le (by omega)
    rw [hfull] at hlow hhigh
    simp only [hfull] at hr hk ha hbo
    have hpos:0<(fitsL c l).length:=List.length_pos_iff.2 hne
    have y1:low=true:=by
     rw [hlow,List.any_eq_true]
     obtain ⟨t,h1,h2⟩:=hP.loE hne
     exact ⟨t,h1,by simpa using h2⟩
    have y2:high=true:=by
     rw [hhigh,List.any_eq_true]
     obtain ⟨t,h1,h2⟩:=hP.hiE hne
     exact ⟨t,h1,by simpa using h2⟩
    have y3:some=true:=by rw [hsome];exact decide_eq_true (by omega)
    obtain ⟨t0,ht0⟩:=List.exists_mem_of_ne_nil _ hne
    have z1:(pictV c l).1.1=rows:=has_ext hok.can.1 sr fun n _=>by rw [hP.canR,hr]
    have z2:(pictV c l).1.2.1=cols:=has_ext hok.can.2 sk fun n _=>by rw [hP.canC,hk]
    have z3:(pictV c l).1.2.2.1=all:=has_ext hok.sure.1 sa fun n _=>by
     rw [hP.sureR hne,ha]
     cases hall:(fitsL c l).all fun t=>hasB t.1 (n:Nat) with
     | false=>rw [Bool.and_false]
     | true =>
      have:=bit_lt (hsm t0 ht0).1.1.1 (hsm t0 ht0).2.1 (List.all_eq_true.1 hall t0 ht0)
      rw [decide_eq_true this];rfl
    have z4:(pictV c l).1.2.2.2=both:=has_ext hok.sure.2 sb fun n _=>by
     rw [hP.sureC hne,hbo]
     cases hall:(fitsL c l).all fun t=>hasB t.2 (n:Nat) with
     | false=>rw [Bool.and_false]
     | true =>
      have:=bit_lt (hsm t0 ht0).1.2.1 (hsm t0 ht0).2.2 (List.all_eq_true.1 hall t0 ht0)
      rw [decide_eq_true this];rfl
    have hno:(((((!some)||(!low))||(!high))||(!((((xray_Causes (c,l)).1).1==rows)&&(((((xray_Causes (c,l)).1).2).1==cols)&&((((((xray_Causes (c,l)).1).2).2).1==all)&&(((((xray_Causes (c,l)).1).2).2).2==both)))))))=false:=by
     rw [e2,y1,y2,y3,←z1,←z2,←z3,←z4]
     simp
    obtain ⟨jn,jy⟩:=(judge_vals (c:=c) (l:=l) r k).2 hw
    refine ⟨fun hbad=>?_,fun _=>⟨fun hz=>⟨fun _=>trivial,?_⟩,fun hz=>?_⟩⟩
    ·have:=hno.symm.trans hbad
     cases this
    ·show (_:Bool)=true
     cases hpl:placeB c r k with
     | true =>
      rw [jn hpl] at hz
      cases hz
     | false=>rw [jy hpl];rfl
    ·cases hpl:placeB c r k with
     | false =>
      rw [jy hpl] at hz
      cases hz
     | true =>
      have hj:=jn hpl
      have hlook:∀ v:Int,(v=0∨v=1)→lookB c (r,k,v)=true:=fun v hv=>by
       unfold lookB
       rw [hpl,Bool.true_and]
       rcases hv with rfl | rfl<;>rfl
      have hcount:∀ v:Int,(v=0∨v=1)→(xray_Count (c,l++[(r,k,v)])).2=cond ((fitsL c l).filter fun t=>fitB t (r,k,v)).isEmpty 6 0:=fun v hv=>by
       have:=openE_val c (l++[(r,k,v)]) true hc (by rw [List.length_append];simp only [List.length_cons,List.length_nil];omega) rfl (by rw [List.all_append,hw.looks,List.all_cons,hlook v hv];rfl)
       rw [fits_app] at this
       exact this
      have c1:=hcount 1 (.inr rfl)
      have c0:=hcount 0 (.inl rfl)
      rw [empty_filter] at c1 c0
      have ec1:((fitsL c l).countP fun t=>fitB t (r,k,1))=(fitsL c l).countP fun t=>badB t r k:=rfl
      have ec0:((fitsL c l).countP fun t=>fitB t (r,k,0))=(fitsL c l).countP fun t=>!badB t r k:=rfl
      rw [ec1] at c1
      rw [ec0] at c0
      have hnot:=countP_not' (fun t=>badB t r k) (fitsL c l)
      have hje:=judge_eq (l:=l) hc hpl
      have room:∀ v:Int,Z.roomy 3 (((((List.replicate 0 ((0:Int),(0:Int),(0:Int)))++l)++[(r,k,v)]).length:Nat):Int):=fun v=>roomy_of (by decide) (by decide) (by simp;omega)
      have room0:Z.roomy 3 ((((List.replicate 0 ((0:Int),(0:Int),(0:Int)))++l).length:Nat):Int):=roomy_of (by decide) (by decide) (by simp;omega)
      have pre:∀ v:Int,xray_Count_p (c,((List.replicate 0 ((0:Int),(0:Int),(0:Int)))++l)++[(r,k,v)]):=fun v=>⟨hpre.1,by
       show (([]++l)++[(r,k,v)]).length≤big
       simp only [List.nil_append,List.length_append,List.length_cons,List.length_nil,big]
       omega⟩
      have hle:(fitsL c l).countP (fun t=>badB t r k)≤(fitsL c l).length:=List.countP_le_length
      refine ⟨room0,room 1,pre 1,room0,room 0,pre 0,fun _=>trivial,?_⟩
      show ((((((xray_Judge (c,l,r,k)).1==0)==((xray_Count (c,l++[(r,k,1)])).2==6))&&(((xray_Judge (c,l,r,k)).1==2)==((xray_Count (c,l++[(r,k,0)])).2==6))&&decide ((0:Int)≤(xray_Judge (c,l,r,k)).1))&&decide (((xray_Judge (c,l,r,k)).1:Int)≤2))&&true)=true
      rw [hj,c1,c0]
      dsimp only
      rw [hje]
      generalize (fitsL c l).countP (fun t=>!badB t r k)=a at hnot
      generalize (fitsL c l).countP (fun t=>badB t r k)=b at hnot hle
      by_cases hb0:b=0
      ·have ha0:((a:Int)==0)=false:=by simp;omega
       subst hb0
       rw [ha0];rfl
      ·have h1:((b:Int)==0)=false:=by simpa using hb0
       by_cases hbn:b=(fitsL c l).length
       ·have ha0:((a:Int)==0)=true:=by simp;omega
        have h2:((b:Int)==((fitsL c l).length:Int))=true:=by rw [hbn];exact beq_self_eq_true _
        rw [ha0,h1,h2];rfl
       ·have ha0:((a:Int)==0)=false:=by simp;omega
        have h2:((b:Int)==((fitsL c l).length:Int))=false:=by
         refine beq_eq_false_iff_ne.2 fun e=>hbn (by omega)
        rw [ha0,h1,h2];rfl
end Go.Xr
