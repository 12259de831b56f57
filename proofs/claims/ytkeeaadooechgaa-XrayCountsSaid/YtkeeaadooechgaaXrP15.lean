/-
  Chapter 6: the reference's causes are the program's.
-/
import Derived.Test.YtkeeaadooechgaaXrP14
import Derived.Test.YtkeeaadooechgaaXrP8
set_option linter.all false
set_option maxRecDepth 100000
set_option maxHeartbeats 4000000
set_option linter.unusedVariables false
namespace Go.Xr
open Go Go.Sx
def lowI (s:Int) (n:Int):Int:=((s.toNat % 2^n.toNat:Nat):Int)
theorem low_zero (s:Int):lowI s 0=0:=by simp [lowI,Nat.mod_one]
theorem low_all {s:Int} (h:smallSet s):lowI s 8=s:=by
 simp only [smallSet] at h
 have:s.toNat % 2^8=s.toNat:=Nat.mod_eq_of_lt (by omega)
 show ((s.toNat % 2^8:Nat):Int)=s
 rw [this];omega
theorem low_step (s:Int) {n:Int} (h:0≤n):lowI s (n+1)=lowI s n+cond (hasB s n) (2^n.toNat) 0:=by
 unfold lowI
 rw [show (n+1).toNat=n.toNat+1 by omega,Nat.pow_succ,Nat.mod_mul]
 have e:hasB s n=decide (s.toNat / 2^n.toNat % 2=1):=Nat.testBit_eq_decide_div_mod_eq
 rw [e,pow_int]
 generalize 2^n.toNat=p
 rcases Nat.mod_two_eq_zero_or_one (s.toNat / p) with h0 | h0<;>rw [h0]<;>simp
theorem low_bd (s:Int) {n:Int} (h:n≤8):0≤lowI s n∧lowI s n≤255:=by
 unfold lowI
 have h1:s.toNat % 2^n.toNat<2^n.toNat:=Nat.mod_lt _ (Nat.pow_pos (by decide))
 have h2:=pow_le8 (n:=n.toNat) (by omega)
 omega
theorem v17 (x:Crate × List Look) (h:k17.pre x):V17 x:=by
 obtain ⟨c,l⟩:=x
 refine ⟨h,fun hb=>?_,fun hb=>?_⟩
 ·have hb:=start_bad hb
  show ((0,0,0,0),openE c l true)=xray_Causes (c,l)
  unfold xray_Causes
  rw [show (openE (c,l).1 (c,l).2 true==0)=false by simpa using hb];rfl
 ·have hw:Went c l:=start_good hb
  have hc:=hw.crate
  have hP:=pict_is hc l
  have hok:=pict_ok hc l
  have hlen:=fits_len hc l
  have hne:=hw.ne
  have hcv:xray_Causes (c,l)=((pictV c l).1,0):=by
   unfold xray_Causes
   rw [show openE (c,l).1 (c,l).2 true=0 from went_zero hw];rfl
  have hsm:∀ t∈fitsL c l,smallT t:=fun t ht=>fits_small hc ht
  obtain ⟨⟨cr,cc,sr,sc⟩,hpe⟩:∃ f:Found,f=(pictV c l).1:=⟨_,rfl⟩
  have s1:smallSet cr:=by have:=hok.can.1;rw [←hpe] at this;exact this
  have s2:smallSet cc:=by have:=hok.can.2;rw [←hpe] at this;exact this
  have s3:smallSet sr:=by have:=hok.sure.1;rw [←hpe] at this;exact this
  have s4:smallSet sc:=by have:=hok.sure.2;rw [←hpe] at this;exact this
  have f1:∀ n,hasB cr n=(fitsL c l).any fun t=>hasB t.1 n:=fun n=>by have:=hP.canR n;rw [←hpe] at this;exact this
  have f2:∀ n,hasB cc n=(fitsL c l).any fun t=>hasB t.2 n:=fun n=>by have:=hP.canC n;rw [←hpe] at this;exact this
  have f3:∀ n,hasB sr n=(fitsL c l).all fun t=>hasB t.1 n:=fun n=>by have:=hP.sureR hne n;rw [←hpe] at this;exact this
  have f4:∀ n,hasB sc n=(fitsL c l).all fun t=>hasB t.2 n:=fun n=>by have:=hP.sureC hne n;rw [←hpe] at this;exact this
  simp only [start_ok hw,ref06u_Causes,hcv,←hpe]
  generalize fitsL c l=ts at hlen hsm f1 f2 f3 f4
  have any_pos:∀ p:Truth→Bool,decide ((0:Int)<((ts.countP p:Nat):Int))=ts.any p:=fun p=>by
   refine bool_ext ?_
   rw [decide_eq_true_eq,List.any_eq_true]
   constructor
   ·intro hp
    obtain ⟨a,ha,hap⟩:=List.countP_pos_iff.1 (show 0<ts.countP p by omega)
    exact ⟨a,ha,hap⟩
   ·rintro ⟨a,ha,hap⟩
    have:=List.countP_pos_iff.2 ⟨a,ha,hap⟩
    omega
  have all_eq:∀ p:Truth→Bool,(((ts.countP p:Nat):Int)==(ts.length:Int))=ts.all p:=fun p=>by
   refine bool_ext ?_
   rw [beq_iff_eq,List.all_eq_true]
   constructor
   ·intro hp
    exact List.countP_eq_length.1 (by omega)
   ·intro hp
    have:=List.countP_eq_length.2 hp
    omega
  refine ⟨fun s=>(0≤s.1∧s.1≤8)∧s.2=(lowI cr s.1,lowI cc s.1,lowI sr s.1,lowI sc s.1),fun s=>(8 - s.1).toNat,⟨⟨by show (0:Int)≤0;omega,by show (0:Int)≤8;omega⟩,by rw [low_zero,low_zero,low_zero,low_zero]⟩,?_⟩
  rintro ⟨n,s⟩ ⟨⟨n1,n2⟩,hs⟩
  simp only at n1 n2 hs
  subst hs
  refine ⟨fun hlt=>?_,fun hlt=>?_⟩
  rotate_left
  ·have hlt:¬ n<8:=of_decide_eq_false hlt
   have e:n=8:=by omega
   subst e
   show ((lowI cr 8,lowI cc 8,lowI sr 8,lowI sc 8),0)=((cr,cc,sr,sc),0)
   rw [low_all s1,low_all s2,low_all s3,low_all s4]
  have hlt:n<8:=of_decide_eq_true hlt
  refine ⟨fun s=>(0≤s.2.2∧s.2.2≤(ts.length:Int))∧s.1=((ts.take s.2.2.toNat).countP fun t=>hasB t.1 n:Nat)∧s.2.1=((ts.take s.2.2.toNat).countP fun t=>hasB t.2 n:Nat),fun s=>((ts.length:Int) - s.2.2).toNat,⟨⟨by show (0:Int)≤0;omega,by show (0:Int)≤_;omega⟩,rfl,rfl⟩,?_⟩
  rintro ⟨a,b,i⟩ ⟨⟨i1,i2⟩,ha,hb'⟩
  simp only at i1 i2 ha hb'
  subst ha hb'
  have c1:=List.countP_le_length (p:=fun t=>hasB t.1 n) (l:=ts.take i.toNat)
  have c2:=List.countP_le_length (p:=fun t=>hasB t.2 n) (l:=ts.take i.toNat)
  rw [List.length_take] at c1 c2
  refine ⟨fun hi=>?_,fun hi=>?_⟩
  ·have hi:i<(ts.length:Int):=of_decide_eq_true hi
   have e1:=count_step (fun t=>hasB t.1 n) ts (0,0) i1 hi
   have e2:=count_step (fun t=>hasB t.2 n) ts (0,0) i1 hi
   have hm:=hsm _ (getD_mem' ts (0,0) i i1 hi)
   have hp1:ref06u_Has_p ((ts.getD i.toNat (0,0)).1,n):=⟨hm.1,n1,by show n≤60;omega⟩
   have hp2:ref06u_Has_p ((ts.getD i.toNat (0,0)).2,n):=⟨hm.2,n1,by show n≤60;omega⟩
   have next:∀ a' b':Int,a'=(((ts.take (i+1).toNat).countP fun t=>hasB t.1 n:Nat):Int)→b'=(((ts.take (i+1).toNat).countP fun t=>hasB t.2 n:Nat):Int)→((0≤i+1∧i+1≤(ts.length:Int))∧a'=(((ts.take (i+1).toNat).countP fun t=>hasB t.1 n:Nat):Int)∧b'=(((ts.take (i+1).toNat).countP fun t=>hasB t.2 n:Nat):Int))∧((ts.length:Int) - (i+1)).toNat<((ts.length:Int) - i).toNat:=fun a' b' h1 h2=>⟨⟨⟨by omega,by omega⟩,h1,h2⟩,by omega⟩
   have b1:Z.in64 (((ts.take i.toNat).countP fun t=>hasB t.1 n:Nat)+1):=by simp only [Z.in64];omega
   have b2:Z.in64 (((ts.take i.toNat).countP fun t=>hasB t.2 n:Nat)+1):=by simp only [Z.in64];omega
   have b3:Z.in64 (i+1):=by simp only [Z.in64];omega
   refine ⟨⟨i1,hi⟩,hp1,fun hA=>⟨b1,⟨i1,hi⟩,hp2,fun hB=>⟨b2,b3,by first | rfl | trivial,by first | rfl | trivial,next _ _ ?_ ?_⟩,fun hB=>⟨b3,by first | rfl | trivial,by first | rfl | trivial,next _ _ ?_ ?_⟩⟩,fun hA=>⟨⟨i1,hi⟩,hp2,fun hB=>⟨b2,b3,by first | rfl | trivial,by first | rfl | trivial,next _ _ ?_ ?_⟩,fun hB=>⟨b3,by first | rfl | trivial,by first | rfl | trivial,next _ _ ?_ ?_⟩⟩⟩
   all_goals
    first
     | (rw [e1,show hasB (ts.getD i.toNat (0,0)).1 n=true from hA];rfl)
     | (rw [e1,show hasB (ts.getD i.toNat (0,0)).1 n=false from hA,cond_false,Int.add_zero])
     | (rw [e2,show hasB (ts.getD i.toNat (0,0)).2 n=true from hB];rfl)
     | (rw [e2,show hasB (ts.getD i.toNat (0,0)).2 n=false from hB,cond_false,Int.add_zero])
  ·have hi:¬ i<(ts.length:Int):=of_decide_eq_false hi
   rw [List.take_of_length_le (by omega)]
   have hA:=any_pos fun t=>hasB t.1 n
   have hB:=any_pos fun t=>hasB t.2 n
   have hC:=all_eq fun t=>hasB t.1 n
   have hD:=all_eq fun t=>hasB t.2 n
   rw [←f1 n] at hA
   rw [←f2 n] at hB
   rw [←f3 n] at hC
   rw [←f4 n] at hD
   simp only [hA,hB,hC,hD]
   have hpw:ref06u_power_p n:=⟨n1,by show n≤60;omega⟩
   have p0:ref06u_power n=2^n.toNat:=rfl
   have p1:=(pow8 (r:=n) ⟨n1,hlt⟩)
   have q1:=low_bd cr (n:=n) (by omega)
   have q2:=low_bd cc (n:=n) (by omega)
   have q3:=low_bd sr (n:=n) (by omega)
   have q4:=low_bd sc (n:=n) (by omega)
   have t1:=low_step cr n1
   have t2:=low_step cc n1
   have t3:=low_step sr n1
   have t4:=low_step sc n1
   have next:∀ s:Found,s=(lowI cr (n+1),lowI cc (n+1),lowI sr (n+1),lowI sc (n+1))→((0≤n+1∧n+1≤8)∧s=(lowI cr (n+1),lowI cc (n+1),lowI sr (n+1),lowI sc (n+1)))∧(8 - (n+1)).toNat<(8 - n).toNat:=fun s hs=>⟨⟨⟨by omega,by omega⟩,hs⟩,by omega⟩
   have in1:∀ v:Int,0≤v∧v≤255→Z.in64 (v+ref06u_power n):=fun v hv=>by
    rw [p0]
    simp only [smallSet] at p1
    simp only [Z.in64];omega
   have in2:Z.in64 (n+1):=by simp only [Z.in64];omega
   refine ⟨fun hA=>⟨hpw,in1 _ q1,?_⟩,fun hA=>?_⟩
   all_goals refine ⟨fun hB=>⟨hpw,in1 _ q2,?_⟩,fun hB=>?_⟩
   all_goals refine ⟨fun hC=>⟨hpw,in1 _ q3,?_⟩,fun hC=>?_⟩
   all_goals refine ⟨fun hD=>⟨hpw,in1 _ q4,?_⟩,fun hD=>?_⟩
   all_goals refine ⟨in2,by first | rfl | trivial,next _ ?_⟩
   all_goals
    rw [t1,t2,t3,t4,hA,hB,hC,hD]
    simp only [cond_true,cond_false,Int.add_zero]
    try rfl
end Go.Xr
