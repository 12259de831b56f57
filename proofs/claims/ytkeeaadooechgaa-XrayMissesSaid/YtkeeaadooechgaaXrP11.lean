/-
  Chapter 6: what the picture of some truths is.
-/
import Derived.Test.YtkeeaadooechgaaXrP5
set_option linter.all false
set_option maxRecDepth 100000
set_option maxHeartbeats 4000000
set_option linter.unusedVariables false
namespace Go.Xr
open Go Go.Sx
theorem has_or (a b n:Int):hasB (orI a b) n=(hasB a n||hasB b n):=by simp only [hasB,orI,Int.toNat_natCast,Nat.testBit_or]
theorem has_and (a b n:Int):hasB (andI a b) n=(hasB a n&&hasB b n):=by simp only [hasB,andI,Int.toNat_natCast,Nat.testBit_and]
theorem has_zero (n:Int):hasB 0 n=false:=by simp [hasB]
structure PictIs (c:Crate) (ts:List Truth) (p:Pict):Prop where
 cnt:p.2.2.2=(ts.length:Int)
 canR:∀ n,hasB p.1.1 n=ts.any fun t=>hasB t.1 n
 canC:∀ n,hasB p.1.2.1 n=ts.any fun t=>hasB t.2 n
 sureR:ts≠[]→∀ n,hasB p.1.2.2.1 n=ts.all fun t=>hasB t.1 n
 sureC:ts≠[]→∀ n,hasB p.1.2.2.2 n=ts.all fun t=>hasB t.2 n
 lo:∀ t∈ts,p.2.1.1≤manyV t c
 hi:∀ t∈ts,manyV t c≤p.2.1.2
 loE:ts≠[]→∃ t∈ts,manyV t c=p.2.1.1
 hiE:ts≠[]→∃ t∈ts,manyV t c=p.2.1.2
 g8:p.2.2.1.length=8
 r8:∀ r∈p.2.2.1,r.length=8
 spots:∀ r k:Nat,r<c.1.length→k<c.2.1.toNat→getG p.2.2.1 (r:Nat) (k:Nat)=(ts.countP fun t=>badB t (r:Nat) (k:Nat):Nat)
theorem pict0u_is (c:Crate):PictIs c [] pict0:=by
 refine ⟨rfl,fun n=>has_zero n,fun n=>has_zero n,fun h=>absurd rfl h,fun h=>absurd rfl h,fun _ h=>(by cases h),fun _ h=>(by cases h),fun h=>absurd rfl h,fun h=>absurd rfl h,rfl,fun r hr=>?_,fun r k _ _=>get_zero r k⟩
 rw [(List.mem_replicate.1 hr).2];rfl
theorem add_is {c:Crate} (hc:CrateOk c) {ts:List Truth} {p:Pict} (h:PictIs c ts p) (t:Truth):PictIs c (ts++[t]) (addV c p t):=by
 have hr8:=hc.r8
 have hc8:=hc.c8
 obtain ⟨⟨g1,g2⟩,g3⟩:=spotsR_get (t:=t) (n:=c.2.1.toNat) (by omega) (l:=idx c.1.length) (g:=p.2.2.1) (fun r hr=>by have:=idx_mem.1 hr;omega) (idx_nodup _) h.g8 h.r8
 have hz:ts=[]↔(p.2.2.2==0)=true:=by
  rw [h.cnt]
  cases ts with
  | nil=>simp
  | cons a l=>simp;omega
 have hz':ts≠[]→(p.2.2.2==0)=false:=fun hn=>by
  cases hb:p.2.2.2==0 with
  | false=>rfl
  | true=>exact absurd (hz.2 hb) hn
 refine ⟨?_,fun n=>?_,fun n=>?_,fun _ n=>?_,fun _ n=>?_,?_,?_,fun _=>?_,fun _=>?_,g1,g2,fun r k hr hk=>?_⟩
 ·show p.2.2.2+1=_
  rw [h.cnt,List.length_append]
  simp
 ·show hasB (orI p.1.1 t.1) n=_
  rw [has_or,h.canR,List.any_append]
  simp
 ·show hasB (orI p.1.2.1 t.2) n=_
  rw [has_or,h.canC,List.any_append]
  simp
 ·show hasB (cond (p.2.2.2==0) t.1 (andI p.1.2.2.1 t.1)) n=_
  by_cases hn:ts=[]
  ·rw [hz.1 hn,hn];simp
  ·rw [hz' hn,cond_false,has_and,h.sureR hn,List.all_append]
   simp
 ·show hasB (cond (p.2.2.2==0) t.2 (andI p.1.2.2.2 t.2)) n=_
  by_cases hn:ts=[]
  ·rw [hz.1 hn,hn];simp
  ·rw [hz' hn,cond_false,has_and,h.sureC hn,List.all_append]
   simp
 ·intro t' ht'
  show (cond (p.2.2.2==0) (manyV t c,manyV t c) (min (manyV t c) p.2.1.1,max (manyV t c) p.2.1.2)).1≤_
  by_cases hn:ts=[]
  ·rw [hz.1 hn]
   rw [hn] at ht'
   rw [List.mem_singleton.1 ht']
   exact Int.le_refl _
  ·rw [hz' hn,cond_false]
   rcases List.mem_append.1 ht' with h1 | h1
   ·have:=h.lo t' h1
    simp only;omega
   ·rw [List.mem_singleton.1 h1]
    simp only;omega
 ·intro t' ht'
  show _≤(cond (p.2.2.2==0) (manyV t c,manyV t c) (min (manyV t c) p.2.1.1,max (manyV t c) p.2.1.2)).2
  by_cases hn:ts=[]
  ·rw [hz.1 hn]
   rw [hn] at ht'
   rw [List.mem_singleton.1 ht']
   exact Int.le_refl _
  ·rw [hz' hn,cond_false]
   rcases List.mem_append.1 ht' with h1 | h1
   ·have:=h.hi t' h1
    simp only;omega
   ·rw [List.mem_singleton.1 h1]
    simp only;omega
 ·show ∃ t'∈ts++[t],manyV t' c=(cond (p.2.2.2==0) (manyV t c,manyV t c) (min (manyV t c) p.2.1.1,max (manyV t c) p.2.1.2)).1
  by_cases hn:ts=[]
  ·rw [hz.1 hn]
   exact ⟨t,by simp,rfl⟩
  ·rw [hz' hn,cond_false]
   obtain ⟨a,ha,hae⟩:=h.loE hn
   by_cases hle:manyV t c≤p.2.1.1
   ·exact ⟨t,by simp,(Int.min_eq_left hle).symm⟩
   ·exact ⟨a,List.mem_append_left _ ha,by rw [hae];exact (Int.min_eq_right (by omega)).symm⟩
 ·show ∃ t'∈ts++[t],manyV t' c=(cond (p.2.2.2==0) (manyV t c,manyV t c) (min (manyV t c) p.2.1.1,max (manyV t c) p.2.1.2)).2
  by_cases hn:ts=[]
  ·rw [hz.1 hn]
   exact ⟨t,by simp,rfl⟩
  ·rw [hz' hn,cond_false]
   obtain ⟨a,ha,hae⟩:=h.hiE hn
   by_cases hle:manyV t c≤p.2.1.2
   ·exact ⟨a,List.mem_append_left _ ha,by rw [hae];exact (Int.max_eq_right hle).symm⟩
   ·exact ⟨t,by simp,(Int.max_eq_left (by omega)).symm⟩
 ·show getG (spotsR t c.2.1.toNat (idx c.1.length) p.2.2.1) _ _=_
  rw [g3 r k,h.spots r k hr hk,List.countP_append,List.countP_cons,List.countP_nil]
  have e:decide ((r:Int)∈idx c.1.length∧k<c.2.1.toNat)=true:=decide_eq_true ⟨idx_mem.2 ⟨by omega,by omega⟩,hk⟩
  rw [e,Bool.true_and]
  cases badB t (r:Nat) (k:Nat)<;>simp
theorem fold_is {c:Crate} (hc:CrateOk c):∀ {l ts:List Truth} {p:Pict},PictIs c ts p→PictIs c (ts++l) (l.foldl (addV c) p)
 | [],ts,p,h=>by rw [List.append_nil];exact h
 | t::l,ts,p,h=>by
  have:=fold_is hc (l:=l) (add_is hc h t)
  rw [List.append_assoc] at this
  exact this
def fitsL (c:Crate) (l:List Look):List Truth:=truthsV c fun t=>l.all (fitB t)
theorem pict_is {c:Crate} (hc:CrateOk c) (l:List Look):PictIs c (fitsL c l) (pictV c l):=fold_is hc (pict0u_is c)
theorem sets_mem {many most s:Int}:s∈setsV many most↔(0≤s∧s<2^many.toNat)∧sizeV s≤most:=by
 simp only [setsV,List.mem_filter,idx_mem,decide_eq_true_eq,pow_int]
theorem fits_mem {c:Crate} {l:List Look} {t:Truth}:t∈fitsL c l↔((0≤t.1∧t.1<2^c.1.length)∧sizeV t.1≤c.2.2.1)∧((0≤t.2∧t.2<2^c.2.1.toNat)∧sizeV t.2≤c.2.2.2)∧l.all (fitB t)=true:=by
 simp only [fitsL,truthsV,List.mem_flatMap,List.mem_map,List.mem_filter,sets_mem,Int.toNat_natCast]
 constructor
 ·rintro ⟨a,ha,b,⟨hb,hf⟩,rfl⟩
  exact ⟨ha,hb,hf⟩
 ·rintro ⟨ha,hb,hf⟩
  exact ⟨t.1,ha,t.2,⟨hb,hf⟩,rfl⟩
theorem openE_val (c:Crate) (l:List Look) (b:Bool) (hc:CrateOk c) (hl:(l.length:Int)≤40) (hb:b=true) (hk:l.all (lookB c)=true):openE c l b=cond (fitsL c l).isEmpty 6 0:=by
 rw [(openE_cases c l b).2.2.2 (crate_iff.2 hc) (by omega) hb hk,(pict_is hc l).cnt]
 cases fitsL c l with
 | nil=>rfl
 | cons a m =>
  have:(((a::m).length:Int)==0)=false:=by simp;omega
  rw [this];rfl
end Go.Xr
