/-
  Chapter 6: whether a plan can be good enough.
-/
import Derived.Test.YtkeeaadooechgaaXrP7
set_option linter.all false
set_option maxRecDepth 100000
set_option maxHeartbeats 4000000
set_option linter.unusedVariables false
namespace Go.Xr
open Go Go.Sx
theorem fromTo_mem {a b x:Int}:x∈fromTo a b↔a≤x∧x<b:=by
 simp only [fromTo,List.mem_map,List.mem_range]
 constructor
 ·rintro ⟨k,h,rfl⟩;omega
 ·rintro ⟨h1,h2⟩;exact ⟨(x - a).toNat,by omega,by omega⟩
theorem fromTo_len (a b:Int):(fromTo a b).length=(b - a).toNat:=by simp [fromTo]
theorem fromTo_nil {a b:Int} (h:b≤a):fromTo a b=[]:=by
 unfold fromTo
 rw [show (b - a).toNat=0 by omega];rfl
theorem fromTo_cons {a b:Int} (h:a<b):fromTo a b=a::fromTo (a+1) b:=by
 unfold fromTo
 rw [show (b - a).toNat=(b - (a+1)).toNat+1 by omega,List.range_succ_eq_map,List.map_cons,List.map_map]
 congr 1
 ·simp
 ·apply List.map_congr_left
  intro k _
  simp only [Function.comp]
  omega
theorem fromTo_snoc {a b:Int} (h:a≤b):fromTo a (b+1)=fromTo a b++[b]:=by
 unfold fromTo
 rw [show (b+1 - a).toNat=(b - a).toNat+1 by omega,List.range_succ,List.map_append]
 congr 1
 simp only [List.map_cons,List.map_nil]
 congr 1
 omega
theorem pow8 {r:Int} (h:0≤r∧r<8):smallSet (2^r.toNat):=by
 rw [pow_int]
 have h1:2^r.toNat≤2^7:=Nat.pow_le_pow_right (by decide) (by omega)
 have h2:0<2^r.toNat:=Nat.pow_pos (by decide)
 simp only [smallSet]
 omega
theorem orfold_small:∀ {l:List Int} {s:Int},smallSet s→(∀ r∈l,0≤r∧r<8)→smallSet (l.foldl (fun s r=>orI s (2^r.toNat)) s)
 | [],s,h,_=>h
 | r::l,s,h,hr=>orfold_small (l:=l) (small_or h (pow8 (hr r List.mem_cons_self))) fun r' h'=>hr r' (List.mem_cons_of_mem _ h')
theorem v43 (x:Plan × Spot × Int) (h:k43.pre x):V43 x:=by
 obtain ⟨⟨hc,hrows,hcols⟩,⟨⟨ha1,ha2⟩,hb1,hb2⟩,hm0,hm⟩:=h
 have hc0:=hc
 have hc:=crate_iff.1 hc
 have hr8:=hc.r8
 have hc1:=hc.c1
 have hc8:=hc.c8
 refine ⟨by simp only [Z.in64];omega,fun s=>(x.2.1.1+1≤s.2∧s.2≤(x.1.1.1.length:Int))∧s.1=fromTo (x.2.1.1+1) s.2,fun s=>((x.1.1.1.length:Int) - s.2).toNat,⟨⟨by show x.2.1.1+1≤x.2.1.1+1;omega,by show x.2.1.1+1≤_;omega⟩,by show []=_;rw [fromTo_nil (by show x.2.1.1+1≤x.2.1.1+1;omega)]⟩,?_⟩
 rintro ⟨l,r⟩ ⟨⟨r1,r2⟩,hl⟩
 simp only at r1 r2 hl
 subst hl
 refine ⟨fun hk=>?_,fun hk=>?_⟩
 ·have hk:r<(x.1.1.1.length:Int):=of_decide_eq_true hk
  refine ⟨roomy_of (by decide) (by decide) ?_,by simp only [Z.in64];omega,⟨⟨by show x.2.1.1+1≤r+1;omega,by show r+1≤_;omega⟩,?_⟩,by show ((x.1.1.1.length:Int) - (r+1)).toNat<((x.1.1.1.length:Int) - r).toNat;omega⟩
  ·simp only [List.length_append,List.length_set,List.length_replicate,fromTo_len]
   omega
  ·show _=fromTo (x.2.1.1+1) (r+1)
   rw [fromTo_snoc r1];rfl
 ·have hk:¬ r<(x.1.1.1.length:Int):=of_decide_eq_false hk
  have er:r=(x.1.1.1.length:Int):=by omega
  subst er
  have hL:laterV x.1 x.2.1=fromTo (x.2.1.1+1) (x.1.1.1.length:Int):=rfl
  have hLm:∀ a∈laterV x.1 x.2.1,0≤a∧a<(x.1.1.1.length:Int):=fun a ha=>by
   have:=fromTo_mem.1 ha
   omega
  have hLl:(laterV x.1 x.2.1).length≤8:=by rw [hL,fromTo_len];omega
  have hS:=sort_len (lt:=fun a b=>moreB (lieOf x.1 a) (lieOf x.1 b)) (l:=laterV x.1 x.2.1)
  have hSm:∀ a∈sortV (fun a b=>moreB (lieOf x.1 a) (lieOf x.1 b)) (laterV x.1 x.2.1),0≤a∧a<8:=fun a ha=>by
   have:=hLm a (sort_mem.1 ha)
   omega
  rw [←hL]
  generalize hLg:laterV x.1 x.2.1=L at hLm hLl hS hSm
  refine ⟨trivial,trivial,trivial,trivial,trivial,trivial,fun s=>s=(0,20,L),fun _=>0,rfl,?_⟩
  rintro s rfl
  refine ⟨fun hd=>?_,fun _=>⟨trivial,trivial,trivial,trivial,by simp only [Z.in64];omega,?_⟩⟩
  ·have hd:(20:Int)≤(L.length:Int):=of_decide_eq_true hd
   omega
  ·dsimp only
   refine sort_loop (fun a b=>moreB (lieOf x.1 a) (lieOf x.1 b)) (fun a b=>xray_plan_can_1 (a,b,x.1)) (fun a b=>xray_plan_can_1u_p (a,b,x.1)) (fun a b=>cmp_lt _ _) L hLl (fun a ha b hb=>⟨hLm a ha,hLm b hb⟩) _ ?_
   intro i
   refine ⟨fun s=>s=20,fun _=>0,rfl,?_⟩
   rintro s rfl
   refine ⟨fun hd=>?_,fun _=>?_⟩
   ·have hd:(20:Int)<(L.length:Int):=of_decide_eq_true hd
    omega
   have hSe:sortV (fun a b=>moreB (lieOf x.1 a) (lieOf x.1 b)) (laterV x.1 x.2.1)=sortV (fun a b=>moreB (lieOf x.1 a) (lieOf x.1 b)) L:=by rw [hLg]
   have hrV:rowsV x.1 x.2.1 x.2.2=((sortV (fun a b=>moreB (lieOf x.1 a) (lieOf x.1 b)) L).take x.2.2.toNat).foldl (fun s r=>orI s (2^r.toNat)) x.1.2.2.1:=by unfold rowsV;rw [hSe]
   generalize sortV (fun a b=>moreB (lieOf x.1 a) (lieOf x.1 b)) L=S at hS hSm hrV
   dsimp only
   rw [take_min]
   have hTm:∀ a∈S.take x.2.2.toNat,0≤a∧a<8:=fun a ha=>hSm a (List.mem_of_mem_take ha)
   have hTl:(S.take x.2.2.toNat).length≤8:=by rw [List.length_take];omega
   generalize S.take x.2.2.toNat=T at hTm hTl hrV
   refine ⟨⟨by omega,by omega⟩,fun s=>(0≤s.2∧s.2≤(T.length:Int))∧s.1=(T.take s.2.toNat).foldl (fun s r=>orI s (2^r.toNat)) x.1.2.2.1,fun s=>((T.length:Int) - s.2).toNat,⟨⟨by simp,by simp⟩,rfl⟩,?_⟩
   rintro ⟨w,k⟩ ⟨⟨k1,k2⟩,hw⟩
   simp only at k1 k2 hw
   subst hw
   refine ⟨fun hk=>?_,fun hk=>?_⟩
   ·have hk:k<(T.length:Int):=of_decide_eq_true hk
    have hg:=hTm _ (getD_mem' T 0 k k1 hk)
    have hsm:=orfold_small (l:=T.take k.toNat) hrows fun r hr=>hTm r (List.mem_of_mem_take hr)
    have hp:=pow8 hg
    have hpp:(1*2^(T.getD k.toNat 0).toNat:Int)=2^(T.getD k.toNat 0).toNat:=Int.one_mul _
    refine ⟨⟨k1,hk⟩,shl_ok hg.1 (by show T.getD k.toNat 0<62;omega),⟨hsm.1,by rw [hpp];exact hp.1⟩,by simp only [Z.in64];omega,by first | rfl | trivial,⟨⟨by show 0≤k+1;omega,by show k+1≤_;omega⟩,?_⟩,by show ((T.length:Int) - (k+1)).toNat<((T.length:Int) - k).toNat;omega⟩
    show _=(T.take (k+1).toNat).foldl (fun s r=>orI s (2^r.toNat)) x.1.2.2.1
    rw [take_one T 0 k k1 hk,List.foldl_append,List.foldl_cons,List.foldl_nil,hpp]
    rfl
   ·have hk:¬ k<(T.length:Int):=of_decide_eq_false hk
    rw [List.take_of_length_le (by omega),←hrV]
    have hfr:freshV x.1 x.2.1=((idx x.1.1.2.1.toNat).countP fun k=>!hasB x.1.2.2.2 k&&(decide (0<(S.length:Int))||decide (x.2.1.2<k)):Nat):=by
     unfold freshV
     rw [hLg]
     have:decide (0<L.length)=decide (0<(S.length:Int)):=by
      rw [hS]
      by_cases h:0<L.length
      ·rw [decide_eq_true h,decide_eq_true (by omega)]
      ·rw [decide_eq_false h,decide_eq_false (by omega)]
     rw [this]
    generalize hq:(fun k=>!hasB x.1.2.2.2 k&&(decide (0<(S.length:Int))||decide (x.2.1.2<k)))=q at hfr
    have hnc:((x.1.1.2.1.toNat:Nat):Int)=x.1.1.2.1:=by omega
    refine ⟨fun s=>(0≤s.2∧s.2≤x.1.1.2.1)∧s.1=(((idx x.1.1.2.1.toNat).take s.2.toNat).countP q:Nat),fun s=>(x.1.1.2.1 - s.2).toNat,⟨⟨by simp,by show 0≤x.1.1.2.1;omega⟩,rfl⟩,?_⟩
    rintro ⟨f,j⟩ ⟨⟨j1,j2⟩,hf⟩
    simp only at j1 j2 hf
    subst hf
    have hcp:=List.countP_le_length (p:=q) (l:=(idx x.1.1.2.1.toNat).take j.toNat)
    rw [List.length_take,idx_len] at hcp
    refine ⟨fun hj=>?_,fun hj=>?_⟩
    ·have hj:j<x.1.1.2.1:=of_decide_eq_true hj
     have et:=idx_take (n:=x.1.1.2.1.toNat) (k:=j) j1 (by omega)
     have hqj:q j=(!hasB x.1.2.2.2 j&&(decide (0<(S.length:Int))||decide (x.2.1.2<j))):=by rw [←hq]
     refine ⟨⟨hcols.1,j1,by show j<64;omega⟩,fun hb=>⟨by simp only [Z.in64];omega,by simp only [Z.in64];omega,by first | rfl | trivial,⟨⟨by show 0≤j+1;omega,by show j+1≤_;omega⟩,?_⟩,by show (x.1.1.2.1 - (j+1)).toNat<(x.1.1.2.1 - j).toNat;omega⟩,fun hb=>⟨by simp only [Z.in64];omega,by first | rfl | trivial,⟨⟨by show 0≤j+1;omega,by show j+1≤_;omega⟩,?_⟩,by show (x.1.1.2.1 - (j+1)).toNat<(x.1.1.2.1 - j).toNat;omega⟩⟩
     ·have hb:(!hasB x.1.2.2.2 j&&(decide (0<(S.length:Int))||decide (x.2.1.2<j)))=true:=hb
      rw [←hqj] at hb
      show _=((((idx x.1.1.2.1.toNat).take (j+1).toNat).countP q:Nat):Int)
      rw [et,List.countP_append,List.countP_cons,List.countP_nil,hb]
      simp
     ·have hb:(!hasB x.1.2.2.2 j&&(decide (0<(S.length:Int))||decide (x.2.1.2<j)))=false:=hb
      rw [←hqj] at hb
      show _=((((idx x.1.1.2.1.toNat).take (j+1).toNat).countP q:Nat):Int)
      rw [et,List.countP_append,List.countP_cons,List.countP_nil,hb]
      simp
    ·have hj:¬ j<x.1.1.2.1:=of_decide_eq_false hj
     rw [take_all (by omega),←hfr]
     have hf8:0≤freshV x.1 x.2.1∧freshV x.1 x.2.1≤8:=by
      rw [hfr]
      have:=List.countP_le_length (p:=q) (l:=idx x.1.1.2.1.toNat)
      rw [idx_len] at this
      omega
     have hsz:=size_bd x.1.2.2.2
     refine ⟨hcols,by simp only [Z.in64,xray_set_size];omega,⟨hc0,?_,?_⟩,rfl⟩
     ·rw [hrV]
      exact orfold_small hrows hTm
     ·show 0≤sizeV x.1.2.2.2+min (freshV x.1 x.2.1) x.2.2∧sizeV x.1.2.2.2+min (freshV x.1 x.2.1) x.2.2≤16
      omega
end Go.Xr
