/-
  Chapter 6: the reference's results are the program's.
-/
import Derived.Test.YtkeeaadooechgaaXrP13
set_option linter.all false
set_option maxRecDepth 100000
set_option maxHeartbeats 4000000
set_option linter.unusedVariables false
namespace Go.Xr
open Go Go.Sx
structure Went (c:Crate) (l:List Look):Prop where
 crate:CrateOk c
 len:(l.length:Int)≤40
 looks:l.all (lookB c)=true
 ne:fitsL c l≠[]
theorem went_of {c:Crate} {l:List Look} {b:Bool} (h:openE c l b=0):Went c l∧b=true:=by
 obtain ⟨h1,h2,h3,h4,h5⟩:=open_zero h
 have hc:=crate_iff.1 h1
 refine ⟨⟨hc,h2,h4,fun hn=>h5 ?_⟩,h3⟩
 rw [(pict_is hc l).cnt,hn];rfl
theorem went_zero {c:Crate} {l:List Look} (h:Went c l):openE c l true=0:=by
 rw [openE_val c l true h.crate h.len rfl h.looks]
 cases hf:fitsL c l with
 | nil=>exact absurd hf h.ne
 | cons a m=>rfl
theorem fits_small {c:Crate} (hc:CrateOk c) {l:List Look} {t:Truth} (ht:t∈fitsL c l):smallT t:=truths_small hc.r8 ⟨by have:=hc.c1;omega,hc.c8⟩ ht
theorem fits_len {c:Crate} (hc:CrateOk c) (l:List Look):(fitsL c l).length≤65536:=truths_len hc.r8 ⟨by have:=hc.c1;omega,hc.c8⟩
theorem start_ok {c:Crate} {l:List Look} (h:Went c l):ref06u_start (c,l)=(fitsL c l,0):=by
 unfold ref06u_start
 rw [went_zero h];rfl
theorem start_bad {c:Crate} {l:List Look} (h:(!((ref06u_start (c,l)).2==0))=true):openE c l true≠0:=by
 have h:(!(openE c l true==0))=true:=h
 simpa using h
theorem start_good {c:Crate} {l:List Look} (h:(!((ref06u_start (c,l)).2==0))=false):Went c l:=by
 have h:(!(openE c l true==0))=false:=h
 exact (went_of (b:=true) (by simpa using h)).1
theorem v15 (x:Crate × List Look) (h:k15.pre x):V15 x:=by
 obtain ⟨c,l⟩:=x
 refine ⟨h,fun hb=>?_,fun hb=>?_⟩
 ·have hb:=start_bad hb
  show ((0,0),openE c l true)=xray_Count (c,l)
  unfold xray_Count
  rw [show (openE (c,l).1 (c,l).2 true==0)=false by simpa using hb];rfl
 ·have hw:Went c l:=start_good hb
  have hc:=hw.crate
  have hP:=pict_is hc l
  have hlen:=fits_len hc l
  have hne:=hw.ne
  have hpos:0<(fitsL c l).length:=List.length_pos_iff.2 hne
  have hcv:xray_Count (c,l)=((pictV c l).2.1,0):=by
   unfold xray_Count
   rw [show openE (c,l).1 (c,l).2 true=0 from went_zero hw];rfl
  simp only [start_ok hw,ref06u_Count,hcv]
  have hsm:∀ t∈fitsL c l,smallT t∧t.2<2^c.2.1.toNat:=fun t ht=>⟨fits_small hc ht,(fits_mem.1 ht).2.1.1.2⟩
  generalize fitsL c l=ts at hP hlen hne hpos hsm
  have hmem:∀ i:Int,0≤i→i<(ts.length:Int)→ref06u_Many_p (c,ts.getD i.toNat (0,0)):=fun i h0 h1=>⟨crate_iff.2 hc,hsm _ (getD_mem' ts (0,0) i h0 h1)⟩
  have h0:=hmem 0 (Int.le_refl _) (by omega)
  have hm0:=getD_mem' ts (0,0) 0 (Int.le_refl _) (by omega)
  refine ⟨⟨Int.le_refl _,by omega⟩,h0,⟨Int.le_refl _,by omega⟩,h0,fun s=>(0≤s.1∧s.1≤(ts.length:Int))∧((∃ t∈ts,manyV t c=s.2.1)∧∃ t∈ts,manyV t c=s.2.2)∧∀ t∈ts.take s.1.toNat,s.2.1≤manyV t c∧manyV t c≤s.2.2,fun s=>((ts.length:Int) - s.1).toNat,⟨⟨by show (0:Int)≤0;omega,by show (0:Int)≤_;omega⟩,⟨⟨_,hm0,rfl⟩,_,hm0,rfl⟩,fun t ht=>by simp at ht⟩,?_⟩
  rintro ⟨i,lo,hi⟩ ⟨⟨i1,i2⟩,⟨⟨tl,hl1,hl2⟩,th,hh1,hh2⟩,hall⟩
  simp only at i1 i2 hl2 hh2 hall
  refine ⟨fun hlt=>?_,fun hlt=>?_⟩
  ·have hlt:i<(ts.length:Int):=of_decide_eq_true hlt
   have hmi:=getD_mem' ts (0,0) i i1 hlt
   refine ⟨⟨i1,hlt⟩,hmem i i1 hlt,by simp only [Z.in64];omega,by first | rfl | trivial,⟨⟨by show 0≤i+1;omega,by show i+1≤_;omega⟩,⟨?_,?_⟩,?_⟩,by show ((ts.length:Int) - (i+1)).toNat<((ts.length:Int) - i).toNat;omega⟩
   ·show ∃ t∈ts,manyV t c=min lo (manyV (ts.getD i.toNat (0,0)) c)
    by_cases hle:lo≤manyV (ts.getD i.toNat (0,0)) c
    ·exact ⟨tl,hl1,by rw [Int.min_eq_left hle];exact hl2⟩
    ·exact ⟨_,hmi,by rw [Int.min_eq_right (by omega)]⟩
   ·show ∃ t∈ts,manyV t c=max hi (manyV (ts.getD i.toNat (0,0)) c)
    by_cases hle:hi≤manyV (ts.getD i.toNat (0,0)) c
    ·exact ⟨_,hmi,by rw [Int.max_eq_right hle]⟩
    ·exact ⟨th,hh1,by rw [Int.max_eq_left (by omega)];exact hh2⟩
   ·show ∀ t∈ts.take (i+1).toNat,min lo (manyV (ts.getD i.toNat (0,0)) c)≤manyV t c∧manyV t c≤max hi (manyV (ts.getD i.toNat (0,0)) c)
    rw [take_one ts (0,0) i i1 hlt]
    intro t ht
    rcases List.mem_append.1 ht with ht | ht
    ·have:=hall t ht
     omega
    ·rw [List.mem_singleton.1 ht]
     omega
  ·have hlt:¬ i<(ts.length:Int):=of_decide_eq_false hlt
   rw [List.take_of_length_le (by omega)] at hall
   obtain ⟨ta,ha1,ha2⟩:=hP.loE hne
   obtain ⟨tb,hb1,hb2⟩:=hP.hiE hne
   have e1:lo=(pictV c l).2.1.1:=by
    have q1:=(hall ta ha1).1
    have q2:=hP.lo tl hl1
    omega
   have e2:hi=(pictV c l).2.1.2:=by
    have q1:=(hall tb hb1).2
    have q2:=hP.hi th hh1
    omega
   show ((lo,hi),0)=((pictV c l).2.1,0)
   rw [e1,e2]
theorem v12 (x:Crate × Int) (_:k12.pre x):V12 x:=by
 refine ⟨fun h=>?_,fun h=>?_,fun h=>?_,rfl⟩
 ·have h:=of_decide_eq_false h
  show x.1.1.length≤big
  simp only [big];omega
 ·have hc:=crate_iff.1 (show crateB x.1=true from h.1)
  have h8:=hc.r8
  have h1:=hc.c1
  have hm:=mul_bd (a:=(x.1.1.length:Int)) (b:=x.1.2.1) (A:=8) (B:=8) (by omega) ⟨by omega,hc.c8⟩
  simp only [Z.in64];omega
 ·have hc:=crate_iff.1 (show crateB x.1=true from h.2.1)
  have h8:=hc.r8
  have h1:=hc.c1
  have hc8:=hc.c8
  simp only [Z.in64];omega
end Go.Xr
