/-
  Chapter 6: XrayTrue.
-/
import Derived.Test.YtkeeaadooechgaaXrQ1
import Derived.Test.YtkeeaadooechgaaXrP16
set_option linter.all false
set_option maxRecDepth 100000
set_option maxHeartbeats 4000000
set_option linter.unusedVariables false
namespace Go.Xr
open Go Go.Sx
theorem has_pow {r:Int} (h:0≤r) (k:Nat):hasB (2^r.toNat) (k:Nat)=decide ((k:Int)=r):=by
 unfold hasB
 rw [pow_int,Int.toNat_natCast,Int.toNat_natCast,Nat.testBit_two_pow]
 by_cases e:r.toNat=k
 ·rw [decide_eq_true e,decide_eq_true (by omega)]
 ·rw [decide_eq_false e,decide_eq_false (by omega)]
theorem size_or {s r:Int} (hr:0≤r∧r<8) (hs:hasB s r=false):sizeV (orI s (2^r.toNat))=sizeV s+1:=by
 unfold sizeV
 have e:(fun k:Nat=>hasB (orI s (2^r.toNat)) (k:Nat))=fun k:Nat=>hasB s (k:Nat)||decide (k=r.toNat):=by
  funext k
  rw [has_or,has_pow hr.1]
  congr 1
  by_cases h:k=r.toNat
  ·rw [decide_eq_true h,decide_eq_true (by omega)]
  ·rw [decide_eq_false h,decide_eq_false (by omega)]
 rw [e]
 have hs':hasB s ((r.toNat:Nat):Int)=false:=by rw [show ((r.toNat:Nat):Int)=r by omega];exact hs
 have key:∀ l:List Nat,l.Nodup→r.toNat∈l→l.countP (fun k:Nat=>hasB s (k:Nat)||decide (k=r.toNat))=l.countP (fun k:Nat=>hasB s (k:Nat))+1:=by
  intro l
  induction l with
  | nil=>intro _ h;cases h
  | cons a l ih =>
   intro hn hm
   have hn:=List.nodup_cons.1 hn
   simp only [List.countP_cons]
   by_cases ha:a=r.toNat
   ·subst ha
    have:l.countP (fun k:Nat=>hasB s (k:Nat)||decide (k=r.toNat))=l.countP (fun k:Nat=>hasB s (k:Nat)):=by
     apply List.countP_congr
     intro k hk
     have:k≠r.toNat:=fun e=>hn.1 (e▸hk)
     rw [decide_eq_false this,Bool.or_false]
    rw [this,hs']
    simp
   ·have hm:r.toNat∈l:=by
     rcases List.mem_cons.1 hm with e | e
     ·exact absurd e.symm ha
     ·exact e
    rw [ih hn.2 hm,decide_eq_false ha,Bool.or_false]
    omega
 rw [key _ List.nodup_range (List.mem_range.2 (by omega))]
 simp
theorem pick_ok {bits most:Int} {N:Nat} (hN:N≤8):∀ (m:Nat) (i:Int) (n s:Int),(N:Int) - i=(m:Int)→0≤i→smallSet s→(∀ k:Nat,i≤(k:Int)→hasB s (k:Nat)=false)→sizeV s=n→n≤most →
  smallSet (pickL bits most ((idx N).drop i.toNat) n s)∧(∀ k:Nat,N≤k→hasB (pickL bits most ((idx N).drop i.toNat) n s) (k:Nat)=false)∧sizeV (pickL bits most ((idx N).drop i.toNat) n s)≤most
 | 0,i,n,s,hm,hi,hs,hb,hz,hle=>by
  have e:(idx N).drop i.toNat=[]:=List.drop_eq_nil_of_le (by rw [idx_len];omega)
  rw [e,pickL]
  exact ⟨hs,fun k hk=>hb k (by omega),by omega⟩
 | m+1,i,n,s,hm,hi,hs,hb,hz,hle=>by
  rw [idx_drop_cons hi (by omega),pickL]
  cases hg:(hasB bits i&&decide (n<most)) with
  | true =>
   rw [Bool.and_eq_true,decide_eq_true_eq] at hg
   rw [cond_true]
   have hni:hasB s i=false:=by
    have:=hb i.toNat (by omega)
    rwa [show ((i.toNat:Nat):Int)=i by omega] at this
   have hpi:=pow8 (r:=i) ⟨hi,by omega⟩
   refine pick_ok hN m (i+1) (n+1) _ (by omega) (by omega) (small_or hs hpi) (fun k hk=>?_) (by rw [size_or ⟨hi,by omega⟩ hni,hz]) (by omega)
   rw [has_or,hb k (by omega),has_pow hi,decide_eq_false (by omega)]
   rfl
  | false =>
   rw [cond_false]
   exact pick_ok hN m (i+1) n s (by omega) (by omega) hs (fun k hk=>hb k (by omega)) hz hle
theorem lt_of_bits {s:Int} {N:Nat} (hs:smallSet s) (h:∀ k:Nat,N≤k→hasB s (k:Nat)=false):s<2^N:=by
 have:s.toNat<2^N:=by
  apply Nat.lt_pow_two_of_testBit
  intro k hk
  have:=h k hk
  unfold hasB at this
  rwa [Int.toNat_natCast] at this
 have e:(2:Int)^N=((2^N:Nat):Int):=by simp
 simp only [smallSet] at hs
 rw [e];omega
theorem pick_all {bits most:Int} {N:Nat} (hN:N≤8) (hm:0≤most):smallSet (pickL bits most (idx N) 0 0)∧pickL bits most (idx N) 0 0<2^N∧sizeV (pickL bits most (idx N) 0 0)≤most:=by
 have:=pick_ok (bits:=bits) (most:=most) hN N 0 0 0 (by omega) (Int.le_refl _) ⟨Int.le_refl _,by omega⟩ (fun k _=>has_zero _) (by simp [sizeV,has_zero]) hm
 rw [show (idx N).drop (0:Int).toNat=idx N from rfl] at this
 exact ⟨this.1,lt_of_bits this.1 this.2.1,this.2.2⟩
theorem truth_is {c:Crate} (hc:CrateOk c) (rows cols:Int):smallT (truthV c rows cols)∧(((truthV c rows cols).1<2^c.1.length∧sizeV (truthV c rows cols).1≤c.2.2.1)∧(truthV c rows cols).2<2^c.2.1.toNat∧sizeV (truthV c rows cols).2≤c.2.2.2):=by
 have h1:=hc.c1
 have h8:=hc.c8
 obtain ⟨a1,a2,a3⟩:=pick_all (bits:=rows) (most:=c.2.2.1) hc.r8 hc.clamps.1
 obtain ⟨b1,b2,b3⟩:=pick_all (bits:=cols) (most:=c.2.2.2) (N:=c.2.1.toNat) (by omega) hc.dies.1
 exact ⟨⟨a1,b1⟩,⟨a2,a3⟩,b2,b3⟩
theorem see_fit (c:Crate) (t:Truth) (n:Int):fitB t (seeV c t n)=true:=by
 unfold seeV fitB
 cases h:Int.fdiv n 4096==0 with
 | true=>rfl
 | false =>
  simp only [cond_false]
  cases hb:badB t (Int.tmod n (c.1.length:Int)) (Int.tmod (Int.fdiv n 16) c.2.1)<;>simp [hb]
theorem see_look {c:Crate} (hc:CrateOk c) {t:Truth} {n:Int} (h:0≤n):lookB c (seeV c t n)=true:=by
 obtain ⟨⟨a1,a2⟩,a3,a4⟩:=see_at hc h
 have hv:(seeV c t n).2.2=0∨(seeV c t n).2.2=1∨(seeV c t n).2.2=2:=by
  unfold seeV
  cases Int.fdiv n 4096==0
  ·cases badB t (Int.tmod n (c.1.length:Int)) (Int.tmod (Int.fdiv n 16) c.2.1)
   ·exact .inl rfl
   ·exact .inr (.inl rfl)
  ·exact .inr (.inr rfl)
 have hp:placeB c (seeV c t n).1 (seeV c t n).2.1=true:=by
  simp only [placeB,Bool.and_eq_true,inB_iff]
  exact ⟨⟨a1,by show Int.tmod n (c.1.length:Int)≤_;omega⟩,a3,by show Int.tmod (Int.fdiv n 16) c.2.1≤_;omega⟩
 unfold lookB
 rw [hp,Bool.true_and,inB_iff]
 omega
theorem sub_zero {a b:Int} (h:∀ k:Nat,hasB a (k:Nat)=true→hasB b (k:Nat)=true):(((a.toNat ^^^ (a.toNat &&& b.toNat):Nat):Int)==0)=true:=by
 have e:a.toNat &&& b.toNat=a.toNat:=by
  apply Nat.eq_of_testBit_eq
  intro k
  have:=h k
  simp only [hasB,Int.toNat_natCast] at this
  rw [Nat.testBit_and]
  cases ha:a.toNat.testBit k with
  | false=>rfl
  | true=>rw [this ha];rfl
 rw [e,Nat.xor_self];rfl
structure Within (c:Crate) (l:List Look) (t:Truth):Prop where
 went:Went c l
 mem:t∈fitsL c l
theorem within_of {c:Crate} {l:List Look} {t:Truth} (hc:CrateOk c) (hl:(l.length:Int)≤40) (hk:l.all (lookB c)=true) (ht:t∈fitsL c l):Within c l t:=⟨⟨hc,hl,hk,List.ne_nil_of_mem ht⟩,ht⟩
theorem v6 (x:Crate × Int × Int × List Int) (hp:k6.pre x):V6 x:=by
 obtain ⟨c,rw',cl,by'⟩:=x
 obtain ⟨hby1,hby2,hby3⟩:=hp
 simp only at hby1 hby2 hby3
 refine ⟨fun hg=>?_,fun _=>⟨trivial,rfl⟩,fun hg=>?_⟩
 ·have hg:(decide ((16:Int)<(c.1.length:Int))||decide ((40:Int)<(by'.length:Int)))=false:=hg
  rw [Bool.or_eq_false_iff] at hg
  have:=of_decide_eq_false hg.1
  show c.1.length≤big
  simp only [big];omega
 have hg:((decide ((16:Int)<(c.1.length:Int))||decide ((40:Int)<(by'.length:Int)))||!crateB c)=false:=hg
 simp only [Bool.or_eq_false_iff,Bool.not_eq_false'] at hg
 obtain ⟨⟨g1,g2⟩,hcb⟩:=hg
 have g2:=of_decide_eq_false g2
 have hc:=crate_iff.1 hcb
 have hr8:=hc.r8
 have hc8:=hc.c8
 have hc1:=hc.c1
 obtain ⟨hts,⟨t1,t2⟩,t3,t4⟩:=truth_is hc rw' cl
 have eT:law06u_truth (c,rw',cl)=truthV c rw' cl:=rfl
 have eS:law06u_seen (c,truthV c rw' cl,by')=by'.map (seeV c (truthV c rw' cl)):=rfl
 dsimp only
 simp only [eT,eS]
 generalize truthV c rw' cl=t at hts t1 t2 t3 t4
 have hSl:((by'.map (seeV c t)).length:Int)≤40:=by rw [List.length_map];omega
 have hSk:(by'.map (seeV c t)).all (lookB c)=true:=by
  rw [List.all_eq_true]
  intro y hy
  obtain ⟨n,hn,rfl⟩:=List.mem_map.1 hy
  exact see_look hc (hby3 n hn).1
 have hSf:(by'.map (seeV c t)).all (fitB t)=true:=by
  rw [List.all_eq_true]
  intro y hy
  obtain ⟨n,hn,rfl⟩:=List.mem_map.1 hy
  exact see_fit c t n
 have hseenp:law06u_seen_p (c,t,by'):=⟨hcb,hts,hby3,by show by'.length≤40;omega⟩
 generalize by'.map (seeV c t)=S at hSl hSk hSf
 have hin:∀ l:List Look,l.all (fitB t)=true→t∈fitsL c l:=fun l hl=>fits_mem.2 ⟨⟨⟨hts.1.1,t1⟩,t2⟩,⟨⟨hts.2.1,t3⟩,t4⟩,hl⟩
 have hW:=within_of hc hSl hSk (hin S hSf)
 have hP:=pict_is hc S
 have hok:=pict_ok hc S
 obtain ⟨e1,e2⟩:=count_good hW.went
 have hmany:ref06u_Many (c,t)=manyV t c:=rfl
 have q1:=hP.lo t hW.mem
 have q2:=hP.hi t hW.mem
 have z1:=sub_zero (a:=t.1) (b:=(pictV c S).1.1) fun k hk=>by rw [hP.canR];exact List.any_eq_true.2 ⟨t,hW.mem,hk⟩
 have z2:=sub_zero (a:=t.2) (b:=(pictV c S).1.2.1) fun k hk=>by rw [hP.canC];exact List.any_eq_true.2 ⟨t,hW.mem,hk⟩
 have z3:=sub_zero (a:=(pictV c S).1.2.2.1) (b:=t.1) fun k hk=>by rw [hP.sureR hW.went.ne] at hk;exact List.all_eq_true.1 hk t hW.mem
 have z4:=sub_zero (a:=(pictV c S).1.2.2.2) (b:=t.2) fun k hk=>by rw [hP.sureC hW.went.ne] at hk;exact List.all_eq_true.1 hk t hW.mem
 have d1:decide (manyV t c<(pictV c S).2.1.1)=false:=decide_eq_false (by omega)
 have d2:decide ((pictV c S).2.1.2<manyV t c)=false:=decide_eq_false (by omega)
 have hpreS:xray_Count_p (c,S):=⟨by show c.1.length≤big;simp only [big];omega,by show S.length≤big;simp only [big];omega⟩
 simp only [e1,e2,hmany,z1,z2,z3,z4,d1,d2]
 refine ⟨⟨hcb,hby1,hby2⟩,hseenp,⟨hcb,hts,t3⟩,hpreS,hpreS,fun _=>⟨hts.1.1,hok.can.1.1⟩,fun _=>⟨hts.2.1,hok.can.2.1⟩,fun _=>⟨hok.sure.1.1,hts.1.1⟩,fun _=>⟨hok.sure.2.1,hts.2.1⟩,fun hb=>?_,fun _=>?_⟩
 ·revert hb
  simp
 refine ⟨fun s=>(0≤s.2∧s.2≤(S.length:Int))∧s.1=((S.take s.2.toNat).filter fun y=>!badB t y.1 y.2.1).map fun y=>(y.1,y.2.1),fun s=>((S.length:Int) - s.2).toNat,⟨⟨by show (0:Int)≤0;omega,by show (0:Int)≤_;omega⟩,rfl⟩,?_⟩
 rintro ⟨g,i⟩ ⟨⟨i1,i2⟩,hgd⟩
 simp only at i1 i2 hgd
 subst hgd
 refine ⟨fun hlt=>?_,fun hlt=>?_⟩
 ·have hlt:i<(S.length:Int):=of_decide_eq_true hlt
  have hm:=getD_mem' S (0,0,0) i i1 hlt
  have et:=take_one S (0,0,0) i i1 hlt
  have hlk:=List.all_eq_true.1 hSk _ hm
  obtain ⟨hat,_⟩:=look_at hc hlk
  have hpl:placeB c (S.getD i.toNat (0,0,0)).1 (S.getD i.toNat (0,0,0)).2.1=true:=by
   unfold lookB at hlk
   rw [Bool.and_eq_true] at hlk
   exact hlk.1
  have hj:=((judge_vals (c:=c) (l:=S) (S.getD i.toNat (0,0,0)).1 (S.getD i.toNat (0,0,0)).2.1).2 hW.went).1 hpl
  have hje:=judge_eq (l:=S) hc hpl
  generalize S.getD i.toNat (0,0,0)=y at hm et hlk hat hpl hj hje
  have hbb:ref06u_Bad (t,y.1,y.2.1)=badB t y.1 y.2.1:=rfl
  have hno:(((!((xray_Judge (c,S,y.1,y.2.1)).2==0))||(((xray_Judge (c,S,y.1,y.2.1)).1==2)&&(!badB t y.1 y.2.1)))||(((xray_Judge (c,S,y.1,y.2.1)).1==0)&&badB t y.1 y.2.1))=false:=by
   rw [hj]
   dsimp only
   rw [hje]
   cases hb:badB t y.1 y.2.1 with
   | true =>
    have:((((fitsL c S).countP fun t=>badB t y.1 y.2.1:Nat):Int)==0)=false:=by
     have:=(List.countP_pos_iff (p:=fun t:Truth=>badB t y.1 y.2.1)).2 ⟨t,hW.mem,hb⟩
     simp only [beq_eq_false_iff_ne]
     omega
    rw [this]
    cases ((((fitsL c S).countP fun t=>badB t y.1 y.2.1:Nat):Int)==((fitsL c S).length:Int))<;>rfl
   | false =>
    have:((((fitsL c S).countP fun t=>badB t y.1 y.2.1:Nat):Int)==((fitsL c S).length:Int))=false:=by
     simp only [beq_eq_false_iff_ne]
     intro e
     have:=List.countP_eq_length.1 (show (fitsL c S).countP (fun t=>badB t y.1 y.2.1)=(fitsL c S).length by omega) t hW.mem
     rw [hb] at this;cases this
    rw [this]
    cases ((((fitsL c S).countP fun t=>badB t y.1 y.2.1:Nat):Int)==0)<;>rfl
  have room:∀ v:Spot,Z.roomy 2 ((((((S.take i.toNat).filter fun y=>!badB t y.1 y.2.1).map fun y=>(y.1,y.2.1))++[v]).length:Nat):Int):=fun v=>roomy_of (by decide) (by decide) (by
   have:=List.length_filter_le (fun y:Look=>!badB t y.1 y.2.1) (S.take i.toNat)
   rw [List.length_take] at this
   simp only [List.length_append,List.length_map,List.length_cons,List.length_nil]
   omega)
  refine ⟨⟨i1,hlt⟩,⟨hpreS.1,hpreS.2⟩,⟨hts,hat⟩,fun hb=>?_,fun _=>⟨fun hb=>⟨room _,by simp only [Z.in64];omega,by first | rfl | trivial,by first | rfl | trivial,by first | rfl | trivial,⟨⟨by show 0≤i+1;omega,by show i+1≤_;omega⟩,?_⟩,by show ((S.length:Int) - (i+1)).toNat<((S.length:Int) - i).toNat;omega⟩,fun hb=>⟨by simp only [Z.in64];omega,by first | rfl | trivial,by first | rfl | trivial,by first | rfl | trivial,⟨⟨by show 0≤i+1;omega,by show i+1≤_;omega⟩,?_⟩,by show ((S.length:Int) - (i+1)).toNat<((S.length:Int) - i).toNat;omega⟩⟩⟩
  ·have:=hno.symm.trans hb
   cases this
  ·show _=((S.take (i+1).toNat).filter fun y=>!badB t y.1 y.2.1).map fun y=>(y.1,y.2.1)
   have hb:(!badB t y.1 y.2.1)=true:=hb
   rw [et,List.filter_append,List.map_append]
   simp only [List.filter_cons,hb,if_true,List.filter_nil]
   rfl
  ·show _=((S.take (i+1).toNat).filter fun y=>!badB t y.1 y.2.1).map fun y=>(y.1,y.2.1)
   have hb:(!badB t y.1 y.2.1)=false:=hb
   rw [et,List.filter_append,List.map_append]
   simp [hb]
 ·have hlt:¬ i<(S.length:Int):=of_decide_eq_false hlt
  rw [List.take_of_length_le (by omega)]
  have hfl:=List.length_filter_le (fun y:Look=>!badB t y.1 y.2.1) S
  have hGm:∀ y∈((S.filter fun y=>!badB t y.1 y.2.1).map fun y=>((y.1,y.2.1):Spot)).map goodOf,lookB c y=true∧fitB t y=true:=by
   intro y hy
   obtain ⟨s,hs,rfl⟩:=List.mem_map.1 hy
   obtain ⟨z,hz,rfl⟩:=List.mem_map.1 hs
   obtain ⟨hz1,hz2⟩:=List.mem_filter.1 hz
   have hlk:=List.all_eq_true.1 hSk z hz1
   unfold lookB at hlk
   rw [Bool.and_eq_true] at hlk
   exact ⟨by unfold lookB goodOf;rw [hlk.1];rfl,hz2⟩
  have hGl:((((S.filter fun y=>!badB t y.1 y.2.1).map fun y=>((y.1,y.2.1):Spot)).map goodOf).length:Int)≤40:=by
   rw [List.length_map,List.length_map];omega
  have hpreG:xray_Missed_p (c,(S.filter fun y=>!badB t y.1 y.2.1).map fun y=>(y.1,y.2.1)):=⟨hpreS.1,by
   show ((S.filter fun y=>!badB t y.1 y.2.1).map fun y=>((y.1,y.2.1):Spot)).length≤big
   rw [List.length_map]
   simp only [big];omega⟩
  have hWG:=within_of hc hGl (List.all_eq_true.2 fun y hy=>(hGm y hy).1) (hin _ (List.all_eq_true.2 fun y hy=>(hGm y hy).2))
  have q3:=(pict_is hc (((S.filter fun y=>!badB t y.1 y.2.1).map fun y=>((y.1,y.2.1):Spot)).map goodOf)).hi t hWG.mem
  have eM:xray_Missed (c,(S.filter fun y=>!badB t y.1 y.2.1).map fun y=>(y.1,y.2.1))=((pictV c (((S.filter fun y=>!badB t y.1 y.2.1).map fun y=>((y.1,y.2.1):Spot)).map goodOf)).2.1.2,0):=by
   unfold xray_Missed
   rw [show openE (c,((S.filter fun y=>!badB t y.1 y.2.1).map fun y=>((y.1,y.2.1):Spot))).1 ((c,((S.filter fun y=>!badB t y.1 y.2.1).map fun y=>((y.1,y.2.1):Spot))).2.map goodOf) true=0 from went_zero hWG.went];rfl
  refine ⟨hpreG,fun _=>trivial,?_⟩
  show ((((xray_Missed (c,(S.filter fun y=>!badB t y.1 y.2.1).map fun y=>(y.1,y.2.1))).2==0)&&decide (manyV t c≤(xray_Missed (c,(S.filter fun y=>!badB t y.1 y.2.1).map fun y=>(y.1,y.2.1))).1))&&true)=true
  rw [eM]
  dsimp only
  rw [decide_eq_true q3];rfl
end Go.Xr
