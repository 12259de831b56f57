/-
  Chapter 6: what is known of a crate.
-/
import Derived.Test.YtkeeaadooechgaaXrP4
set_option linter.all false
set_option maxRecDepth 100000
set_option maxHeartbeats 4000000
set_option linter.unusedVariables false
namespace Go.Xr
open Go Go.Sx
theorem add_ok {c:Crate} {p:Pict} {t:Truth} (hp:PictOk p) (hc:CrateOk c) (ht:smallT t) (hn:p.2.2.2+1<100000):PictOk (addV c p t):=by
 have hb:=many_bd (t:=t) hc
 have hr8:=hc.r8
 have hc8:=hc.c8
 have hcnt:=hp.cnt
 have hm:=hp.many
 have hle2:=hp.le2
 obtain ⟨⟨g1,g2⟩,g3⟩:=spotsR_get (t:=t) (n:=c.2.1.toNat) (by omega) (l:=idx c.1.length) (g:=p.2.2.1) (fun r hr=>by have:=idx_mem.1 hr;omega) (idx_nodup _) hp.g8 hp.r8
 have hm':0≤(cond (p.2.2.2==0) (manyV t c,manyV t c) (min (manyV t c) p.2.1.1,max (manyV t c) p.2.1.2)).1∧(cond (p.2.2.2==0) (manyV t c,manyV t c) (min (manyV t c) p.2.1.1,max (manyV t c) p.2.1.2)).1≤(cond (p.2.2.2==0) (manyV t c,manyV t c) (min (manyV t c) p.2.1.1,max (manyV t c) p.2.1.2)).2∧(cond (p.2.2.2==0) (manyV t c,manyV t c) (min (manyV t c) p.2.1.1,max (manyV t c) p.2.1.2)).2≤100000:=by
  cases p.2.2.2==0<;>simp only [cond_true,cond_false]<;>omega
 refine ⟨⟨small_or hp.can.1 ht.1,small_or hp.can.2 ht.2⟩,⟨?_,?_⟩,⟨⟨hm'.1,Int.le_trans hm'.2.1 hm'.2.2⟩,Int.le_trans hm'.1 hm'.2.1,hm'.2.2⟩,g1,g2,fun i k=>?_,⟨?_,hn⟩,hm'.2.1⟩
 ·show smallSet (cond _ _ _)
  cases p.2.2.2==0
  ·exact small_and hp.sure.1
  ·exact ht.1
 ·show smallSet (cond _ _ _)
  cases p.2.2.2==0
  ·exact small_and hp.sure.2
  ·exact ht.2
 ·have h1:=hp.le i k
  show 0≤getG (spotsR _ _ _ _) _ _∧getG (spotsR _ _ _ _) _ _≤p.2.2.2+1
  rw [g3 i k]
  cases (decide ((i:Int)∈idx c.1.length∧k<c.2.1.toNat)&&badB t (i:Nat) (k:Nat))<;>simp only [cond_true,cond_false]<;>omega
 ·show 0≤p.2.2.2+1
  omega
theorem get_zero (i k:Nat):getG (List.replicate 8 (List.replicate 8 0)) (i:Nat) (k:Nat)=0:=by
 simp only [getG,Int.toNat_natCast,List.getD,List.getElem?_replicate]
 have e:(if i<8 then some (List.replicate 8 (0:Int)) else none).getD (List.replicate 8 0)=List.replicate 8 0:=by split<;>rfl
 rw [e,List.getElem?_replicate]
 split<;>rfl
theorem pict0u_ok:PictOk pict0:=by
 refine ⟨⟨⟨by decide,by decide⟩,⟨by decide,by decide⟩⟩,⟨⟨by decide,by decide⟩,⟨by decide,by decide⟩⟩,⟨⟨by decide,by decide⟩,by decide,by decide⟩,rfl,fun r hr=>?_,fun i k=>?_,⟨by decide,by decide⟩,by decide⟩
 ·rw [(List.mem_replicate.1 hr).2];rfl
 ·have:=get_zero i k
  show 0≤getG (List.replicate 8 (List.replicate 8 0)) _ _∧getG (List.replicate 8 (List.replicate 8 0)) _ _≤(0:Int)
  omega
theorem sets_len {many most:Int} (h:0≤many∧many≤8):(setsV many most).length≤256:=by
 refine Nat.le_trans (List.length_filter_le _ _) ?_
 rw [idx_len]
 exact pow_le8 (by omega)
theorem truths_len {c:Crate} {F:Truth→Bool} (hr:c.1.length≤8) (hc:0≤c.2.1∧c.2.1≤8):(truthsV c F).length≤65536:=by
 have h1:=sets_len (many:=(c.1.length:Int)) (most:=c.2.2.1) ⟨by omega,by omega⟩
 have h2:=sets_len (many:=c.2.1) (most:=c.2.2.2) hc
 have key:∀ l:List Int,(l.flatMap fun a=>((setsV c.2.1 c.2.2.2).filter fun b=>F (a,b)).map fun b=>(a,b)).length≤256*l.length:=by
  intro l
  induction l with
  | nil=>simp
  | cons a l ih =>
   rw [List.flatMap_cons,List.length_append,List.length_map,List.length_cons]
   have:=List.length_filter_le (fun b=>F (a,b)) (setsV c.2.1 c.2.2.2)
   omega
 have:=key (setsV (c.1.length:Int) c.2.2.1)
 unfold truthsV
 omega
theorem truths_small {c:Crate} {F:Truth→Bool} (hr:c.1.length≤8) (hc:0≤c.2.1∧c.2.1≤8) {t:Truth} (ht:t∈truthsV c F):smallT t:=by
 simp only [truthsV,List.mem_flatMap,List.mem_map,List.mem_filter] at ht
 obtain ⟨a,ha,b,⟨hb,_⟩,rfl⟩:=ht
 exact ⟨(sets_small ⟨by omega,by omega⟩ ha).1,(sets_small hc hb).1⟩
theorem lookI_fit (x:Look) (t:Truth):(lookI x).1.val t=fitB t x:=by
 unfold lookI fitB
 cases x.2.2==0
 ·cases x.2.2==1<;>rfl
 ·rfl
theorem look_at {c:Crate} (hc:CrateOk c) {x:Look} (h:lookB c x=true):atPlace x∧0≤x.2.2∧x.2.2≤2:=by
 simp only [lookB,placeB,Bool.and_eq_true,inB_iff] at h
 have:=hc.r8
 have:=hc.c8
 exact ⟨⟨⟨h.1.1.1,by omega⟩,h.1.2.1,by omega⟩,h.2⟩
theorem lookI_pre {x:Look} (h:atPlace x) {t:Truth} (ht:smallT t):(lookI x).1.pre t:=by
 unfold lookI
 cases x.2.2==0
 ·cases x.2.2==1
  ·trivial
  ·exact ⟨h,ht⟩
 ·exact ⟨h,ht⟩
theorem truths_eq (c:Crate) (l:List Look):xray_truths_1 (c,l.map lookI)=truthsV c fun t=>l.all (fitB t):=by
 unfold xray_truths_1
 congr 1
 funext t
 simp only [List.all_map]
 congr 1
 funext x
 exact lookI_fit x t
theorem openE_cases (c:Crate) (l:List Look) (b:Bool) :
  (crateB c=false→openE c l b=1)∧(crateB c=true→40<(l.length:Int)→openE c l b=3)∧(crateB c=true→¬ 40<(l.length:Int)→(b=false∨l.all (lookB c)=false)→openE c l b=2) ∧
  (crateB c=true→¬ 40<(l.length:Int)→b=true→l.all (lookB c)=true→openE c l b=cond ((pictV c l).2.2.2==0) 6 0):=by
 unfold openE
 refine ⟨fun h=>?_,fun h h2=>?_,fun h h2 h3=>?_,fun h h2 h3 h4=>?_⟩
 ·rw [h];rfl
 ·rw [h,decide_eq_true h2];rfl
 ·rw [h,decide_eq_false h2]
  rcases h3 with h3 | h3
  ·rw [h3];rfl
  ·rw [h3];cases b<;>rfl
 ·rw [h,decide_eq_false h2,h3,h4];rfl
theorem v36 (x:Crate × (List Look) × Bool) (h:k36.pre x):V36 x:=by
 have hr:x.1.1.length≤big:=h.1
 have hl:x.2.1.length≤big:=h.2
 obtain ⟨o1,o2,o3,o4⟩:=openE_cases x.1 x.2.1 x.2.2
 have bad:∀ {e:Int},openE x.1 x.2.1 x.2.2=e→(e==0)=false→((none:Option Pict),e)=xray_open x:=by
  intro e he h0
  unfold xray_open
  rw [he,h0];rfl
 refine ⟨hr,fun hb=>bad (o1 (by have hb:(!crateB x.1)=true:=hb;simpa using hb)) rfl,fun hb=>⟨fun hlt=>?_,fun hlt=>⟨fun _=>⟨hl,fun a _=>?_⟩,fun hv=>?_,fun hv=>?_⟩⟩⟩
 ·have hb:crateB x.1=true:=by have hb:(!crateB x.1)=false:=hb;simpa using hb
  exact bad (o2 hb (of_decide_eq_true hlt)) rfl
 ·show crateB x.1=true
  have hb:(!crateB x.1)=false:=hb
  simpa using hb
 ·have hb:crateB x.1=true:=by have hb:(!crateB x.1)=false:=hb;simpa using hb
  have e:(x.2.1.any fun a=>!lookB x.1 a)=!x.2.1.all (lookB x.1):=by rw [←any_not,Bool.not_not]
  have hv:((!x.2.2)||(x.2.1.any fun a=>!lookB x.1 a))=true:=hv
  rw [e] at hv
  refine bad (o3 hb (of_decide_eq_false hlt) ?_) rfl
  simpa using hv
 ·have hb:crateB x.1=true:=by have hb:(!crateB x.1)=false:=hb;simpa using hb
  have hc:=crate_iff.1 hb
  have hlt:=of_decide_eq_false hlt
  have e:(x.2.1.any fun a=>!lookB x.1 a)=!x.2.1.all (lookB x.1):=by rw [←any_not,Bool.not_not]
  have hv:((!x.2.2)||(x.2.1.any fun a=>!lookB x.1 a))=false:=hv
  rw [e,Bool.or_eq_false_iff,Bool.not_eq_false',Bool.not_eq_false'] at hv
  have hE:=o4 hb hlt hv.1 hv.2
  have hlk:=List.all_eq_true.1 hv.2
  refine ⟨fun s=>(0≤s.2∧s.2≤(x.2.1.length:Int))∧s.1=(x.2.1.take s.2.toNat).map lookI,fun s=>((x.2.1.length:Int) - s.2).toNat,⟨⟨by simp,by simp⟩,rfl⟩,?_⟩
  rintro ⟨s,k⟩ ⟨⟨k1,k2⟩,hs⟩
  simp only at k1 k2 hs
  subst hs
  refine ⟨fun hk=>?_,fun hk=>?_⟩
  ·have hk:k<(x.2.1.length:Int):=of_decide_eq_true hk
   have hm:=getD_mem' x.2.1 (0,0,0) k k1 hk
   refine ⟨⟨k1,hk⟩,(look_at hc (hlk _ hm)).2,roomy_of (by decide) (by decide) ?_,by simp only [Z.in64];omega,⟨⟨by show 0≤k+1;omega,by show k+1≤_;omega⟩,?_⟩,by show ((x.2.1.length:Int) - (k+1)).toNat<((x.2.1.length:Int) - k).toNat;omega⟩
   ·simp
    omega
   ·show _=(x.2.1.take (k+1).toNat).map lookI
    rw [take_one x.2.1 (0,0,0) k k1 hk,List.map_append]
    rfl
  ·have hk:¬ k<(x.2.1.length:Int):=of_decide_eq_false hk
   rw [List.take_of_length_le (by omega)]
   have h8:=hc.r8
   have h1:=hc.c1
   refine ⟨trivial,⟨⟨h8,by show 0≤x.1.2.1;omega,hc.c8,by show ((x.2.1.map lookI).length)≤40;rw [List.length_map];omega⟩,fun t ht l hlm=>?_⟩,?_⟩
   ·obtain ⟨y,hy,rfl⟩:=List.mem_map.1 hlm
    exact lookI_pre (look_at hc (hlk _ hy)).1 ht
   ·show Z.RangeP pict0 (xray_truths_1 (x.1,x.2.1.map lookI)) _ _
    rw [truths_eq]
    have hlen:=truths_len (c:=x.1) (F:=fun t=>x.2.1.all (fitB t)) h8 ⟨by omega,hc.c8⟩
    have hsm:∀ t∈truthsV x.1 (fun t=>x.2.1.all (fitB t)),smallT t:=fun t ht=>truths_small h8 ⟨by omega,hc.c8⟩ ht
    have hfin:(truthsV x.1 fun t=>x.2.1.all (fitB t)).foldl (addV x.1) pict0=pictV x.1 x.2.1:=rfl
    generalize truthsV x.1 (fun t=>x.2.1.all (fitB t))=L at hlen hsm hfin
    refine ⟨fun q p=>(PictOk p∧(∀ t∈q,smallT t)∧p.2.2.2+(q.length:Int)≤65536)∧q.foldl (addV x.1) p=pictV x.1 x.2.1,⟨⟨pict0u_ok,hsm,by show (0:Int)+_≤_;omega⟩,hfin⟩,?_,?_⟩
    ·rintro t q p ⟨⟨p1,p2,p3⟩,p4⟩
     simp only [List.length_cons] at p3
     have ht:=p2 t List.mem_cons_self
     refine ⟨⟨⟨p1,hb,ht⟩,trivial,trivial⟩,rfl,trivial,⟨add_ok p1 hc ht (by show p.2.2.2+1<100000;omega),fun t' h'=>p2 t' (List.mem_cons_of_mem _ h'),?_⟩,p4⟩
     show p.2.2.2+1+(q.length:Int)≤65536
     omega
    ·rintro p ⟨_,p4⟩
     have p4:p=pictV x.1 x.2.1:=p4
     subst p4
     refine ⟨fun hz=>?_,fun hz=>?_⟩
     ·rw [hz] at hE
      exact bad hE rfl
     ·rw [hz] at hE
      unfold xray_open
      rw [hE];rfl
theorem v14 (x:Crate × List Look) (h:k14.pre x):V14 x:=by
 refine ⟨h,fun he=>?_,fun he=>?_⟩
 ·have he:(!(openE x.1 x.2 true==0))=true:=he
  show ((0,0),openE x.1 x.2 true)=xray_Count x
  unfold xray_Count
  rw [Bool.not_eq_true'] at he
  rw [he];rfl
 ·have he:(!(openE x.1 x.2 true==0))=false:=he
  rw [Bool.not_eq_false'] at he
  have e0:openE x.1 x.2 true=0:=by simpa using he
  refine ⟨?_,?_⟩
  ·show (cond (openE x.1 x.2 true==0) (some (pictV x.1 x.2)) none).isSome=true
   rw [he];rfl
  ·show (((cond (openE x.1 x.2 true==0) (some (pictV x.1 x.2)) none).getD _).2.1,0)=xray_Count x
   unfold xray_Count
   rw [he,e0];rfl
theorem v16 (x:Crate × List Look) (h:k16.pre x):V16 x:=by
 refine ⟨h,fun he=>?_,fun he=>?_⟩
 ·have he:(!(openE x.1 x.2 true==0))=true:=he
  show ((0,0,0,0),openE x.1 x.2 true)=xray_Causes x
  unfold xray_Causes
  rw [Bool.not_eq_true'] at he
  rw [he];rfl
 ·have he:(!(openE x.1 x.2 true==0))=false:=he
  rw [Bool.not_eq_false'] at he
  have e0:openE x.1 x.2 true=0:=by simpa using he
  refine ⟨?_,?_⟩
  ·show (cond (openE x.1 x.2 true==0) (some (pictV x.1 x.2)) none).isSome=true
   rw [he];rfl
  ·show (((cond (openE x.1 x.2 true==0) (some (pictV x.1 x.2)) none).getD _).1,0)=xray_Causes x
   unfold xray_Causes
   rw [he,e0];rfl
theorem open_zero {c:Crate} {l:List Look} {b:Bool} (h:openE c l b=0):crateB c=true∧(l.length:Int)≤40∧b=true∧l.all (lookB c)=true∧(pictV c l).2.2.2≠0:=by
 obtain ⟨o1,o2,o3,o4⟩:=openE_cases c l b
 cases hc:crateB c with
 | false=>rw [o1 hc] at h;cases h
 | true =>
  by_cases hl:40<(l.length:Int)
  ·rw [o2 hc hl] at h;cases h
  ·cases hb:b with
   | false=>rw [o3 hc hl (.inl hb)] at h;cases h
   | true =>
    cases hk:l.all (lookB c) with
    | false=>rw [o3 hc hl (.inr hk)] at h;cases h
    | true =>
     rw [o4 hc hl hb hk] at h
     refine ⟨rfl,by omega,rfl,rfl,fun h0=>?_⟩
     rw [h0] at h;cases h
theorem v18 (x:Crate × (List Look) × Int × Int) (h:k18.pre x):V18 x:=by
 refine ⟨h.1,h,fun he=>?_,fun he=>?_⟩
 ·have he:(!(openE x.1 x.2.1 (placeE x.1 x.2.2.1 x.2.2.2)==0))=true:=he
  show (0,openE x.1 x.2.1 (placeE x.1 x.2.2.1 x.2.2.2))=xray_Judge x
  unfold xray_Judge
  rw [Bool.not_eq_true'] at he
  rw [he];rfl
 ·have he:(!(openE x.1 x.2.1 (placeE x.1 x.2.2.1 x.2.2.2)==0))=false:=he
  rw [Bool.not_eq_false'] at he
  have e0:openE x.1 x.2.1 (placeE x.1 x.2.2.1 x.2.2.2)=0:=by simpa using he
  obtain ⟨hc,_,hp,_⟩:=open_zero e0
  have hc:=crate_iff.1 hc
  rw [place_eq hc] at hp
  simp only [placeB,Bool.and_eq_true,inB_iff] at hp
  have h8:=hc.r8
  have hc8:=hc.c8
  have hs:(xray_open (x.1,x.2.1,xray_isPlace (x.1,x.2.2.1,x.2.2.2))).1=some (pictV x.1 x.2.1):=by
   show cond (openE x.1 x.2.1 (placeE x.1 x.2.2.1 x.2.2.2)==0) (some (pictV x.1 x.2.1)) none=_
   rw [he];rfl
  have hj:xray_Judge x=(judgeV x.1 x.2.1 x.2.2.1 x.2.2.2,0):=by
   unfold xray_Judge
   rw [he,e0];rfl
  rw [hs,hj]
  refine ⟨rfl,⟨hp.1.1,by omega⟩,⟨hp.2.1,by omega⟩,fun hz=>?_,fun hz=>⟨rfl,fun hn=>?_,fun hn=>?_⟩⟩
  ·have hz:(getG (pictV x.1 x.2.1).2.2.1 x.2.2.1 x.2.2.2==0)=true:=hz
   rw [judgeV,hz];rfl
  ·have hz:(getG (pictV x.1 x.2.1).2.2.1 x.2.2.1 x.2.2.2==0)=false:=hz
   have hn:(getG (pictV x.1 x.2.1).2.2.1 x.2.2.1 x.2.2.2==(pictV x.1 x.2.1).2.2.2)=true:=hn
   rw [judgeV,hz,hn];rfl
  ·have hz:(getG (pictV x.1 x.2.1).2.2.1 x.2.2.1 x.2.2.2==0)=false:=hz
   have hn:(getG (pictV x.1 x.2.1).2.2.1 x.2.2.1 x.2.2.2==(pictV x.1 x.2.1).2.2.2)=false:=hn
   rw [judgeV,hz,hn];rfl
theorem v20 (x:Crate × List Spot) (h:k20.pre x):V20 x:=by
 have hr:x.1.1.length≤big:=h.1
 have hl:x.2.length≤big:=h.2
 refine ⟨fun s=>(0≤s.2∧s.2≤(x.2.length:Int))∧s.1=(x.2.take s.2.toNat).map goodOf,fun s=>((x.2.length:Int) - s.2).toNat,⟨⟨by simp,by simp⟩,rfl⟩,?_⟩
 rintro ⟨s,k⟩ ⟨⟨k1,k2⟩,hs⟩
 simp only at k1 k2 hs
 subst hs
 simp only [big] at hl
 refine ⟨fun hk=>?_,fun hk=>?_⟩
 ·have hk:k<(x.2.length:Int):=of_decide_eq_true hk
  refine ⟨⟨k1,hk⟩,roomy_of (by decide) (by decide) ?_,by simp only [Z.in64];omega,⟨⟨by show 0≤k+1;omega,by show k+1≤_;omega⟩,?_⟩,by show ((x.2.length:Int) - (k+1)).toNat<((x.2.length:Int) - k).toNat;omega⟩
  ·simp
   omega
  ·show _=(x.2.take (k+1).toNat).map goodOf
   rw [take_one x.2 (0,0) k k1 hk,List.map_append]
   rfl
 ·have hk:¬ k<(x.2.length:Int):=of_decide_eq_false hk
  rw [List.take_of_length_le (by omega)]
  refine ⟨⟨hr,by show (x.2.map goodOf).length≤big;rw [List.length_map];simp only [big];omega⟩,fun he=>?_,fun he=>?_⟩
  ·have he:(!(openE x.1 (x.2.map goodOf) true==0))=true:=he
   show (0,openE x.1 (x.2.map goodOf) true)=xray_Missed x
   unfold xray_Missed
   rw [Bool.not_eq_true'] at he
   rw [he];rfl
  ·have he:(!(openE x.1 (x.2.map goodOf) true==0))=false:=he
   rw [Bool.not_eq_false'] at he
   have e0:openE x.1 (x.2.map goodOf) true=0:=by simpa using he
   refine ⟨?_,?_⟩
   ·show (cond (openE x.1 (x.2.map goodOf) true==0) (some (pictV x.1 (x.2.map goodOf))) none).isSome=true
    rw [he];rfl
   ·show (((cond (openE x.1 (x.2.map goodOf) true==0) (some (pictV x.1 (x.2.map goodOf))) none).getD _).2.1.2,0)=xray_Missed x
    unfold xray_Missed
    rw [he,e0];rfl
end Go.Xr
