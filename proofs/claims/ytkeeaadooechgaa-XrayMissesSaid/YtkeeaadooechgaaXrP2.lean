/-
  Chapter 6: sets, truths.
-/
import Derived.Test.YtkeeaadooechgaaXrP1
set_option linter.all false
set_option maxRecDepth 100000
set_option maxHeartbeats 4000000
set_option linter.unusedVariables false
namespace Go.Xr
open Go Go.Sx
theorem idx_mem {n:Nat} {x:Int}:x∈idx n↔0≤x∧x<(n:Int):=by
 simp only [idx,List.mem_map,List.mem_range]
 constructor
 ·rintro ⟨k,h,rfl⟩;omega
 ·rintro ⟨h1,h2⟩;exact ⟨x.toNat,by omega,by omega⟩
theorem idx_len (n:Nat):(idx n).length=n:=by simp [idx]
theorem idx_getD {n k:Nat} (h:k<n) (d:Int):(idx n).getD k d=(k:Int):=by simp [idx,List.getD,h]
theorem pow_le8 {n:Nat} (h:n≤8):2^n≤256:=Nat.pow_le_pow_right (n:=2) (by decide) h
theorem sets_small {many most s:Int} (h:0≤many∧many≤8) (hs:s∈setsV many most):smallSet s∧s<2^many.toNat∧sizeV s≤most:=by
 simp only [setsV,List.mem_filter,decide_eq_true_eq,idx_mem] at hs
 have:=pow_le8 (n:=many.toNat) (by omega)
 refine ⟨?_,?_,hs.2⟩
 ·simp only [smallSet];omega
 ·have:=hs.1.2;rw [pow_int];exact this
theorem idx_drop_cons {n:Nat} {s:Int} (h0:0≤s) (h:s<(n:Int)):(idx n).drop s.toNat=s::(idx n).drop (s+1).toNat:=by
 rw [drop_getD' (idx n) 0 s h0 (by rw [idx_len];exact h),idx_getD (by omega)]
 rw [show ((s.toNat:Nat):Int)=s by omega]
theorem v77 (ly:Nat) (x:Int × Int) (h:k77.pre x):V77 ly x:=by
 have h:0≤x.1∧x.1≤8:=h
 refine ⟨shl_ok h.1 (by omega),fun s=>(s.2.2=false∧0≤s.1∧s.1≤1*2^x.1.toNat)∧s.2.1++((idx (2^x.1.toNat)).drop s.1.toNat).filter (fun s=>decide (sizeV s≤x.2))=setsV x.1 x.2,fun s=>(1*2^x.1.toNat - s.1).toNat,⟨⟨rfl,by simp,by rw [Int.one_mul,pow_int];exact Int.natCast_nonneg _⟩,rfl⟩,?_⟩
 have hp:(2^x.1.toNat:Int)=((2^x.1.toNat:Nat):Int):=pow_int _
 have h256:=pow_le8 (n:=x.1.toNat) (by omega)
 rw [Int.one_mul,hp]
 generalize 2^x.1.toNat=m at *
 rintro ⟨s,l,b⟩ ⟨⟨h1,h2,h3⟩,h4⟩
 simp only at h1 h2 h3 h4 ⊢
 subst h1
 refine ⟨fun hlt=>?_,fun hlt _=>?_⟩
 ·have hlt:=of_decide_eq_true hlt
  rw [idx_drop_cons h2 hlt,List.filter_cons] at h4
  refine ⟨by show smallSet s;simp only [smallSet];omega,fun hsz=>?_,fun hsz=>⟨trivial,trivial,fun hh=>?_,fun _=>⟨by simp only [Z.in64];omega,⟨⟨rfl,by omega,by omega⟩,?_⟩,by show ((m:Int) - (s+1)).toNat<((m:Int) - s).toNat;omega⟩⟩⟩
  ·rw [if_pos (show decide (sizeV s≤x.2)=true from hsz)] at h4
   have e:decide (((xray_set_size s:Int))≤x.2)=true:=hsz
   refine ⟨⟨trivial,rfl⟩,⟨_,h4.symm⟩,⟨trivial,trivial,fun hh=>?_,fun _=>⟨by simp only [Z.in64];omega,⟨⟨trivial,by omega,by omega⟩,?_⟩,by show ((m:Int) - (s+1)).toNat<((m:Int) - s).toNat;omega⟩⟩,trivial,trivial,fun _ hh=>(by cases hh),fun hh=>?_⟩
   ·rw [e] at hh;cases hh
   ·rw [List.append_assoc];exact h4
   ·rw [e] at hh;cases hh
  ·rw [hsz] at hh;cases hh
  ·rw [if_neg (by rw [show decide (sizeV s≤x.2)=false from hsz];simp)] at h4
   exact h4
 ·have hlt:=of_decide_eq_false hlt
  have e:(idx m).drop s.toNat=[]:=List.drop_eq_nil_of_le (by rw [idx_len];omega)
  rw [e,List.filter_nil,List.append_nil] at h4
  exact h4
theorem manyR_bd {t:Truth} {cols:Int} (hc:1≤cols∧cols≤8):∀ {l:List Int} {k:Nat},(∀ n∈l,1≤n∧n≤1000)→0≤manyR t cols l k∧manyR t cols l k≤8000*(l.length:Int)
 | [],k,_=>by simp [manyR]
 | lie::l,k,h=>by
  have ih:=manyR_bd (t:=t) hc (l:=l) (k:=k+1) fun n hn=>h n (List.mem_cons_of_mem _ hn)
  have h1:=h lie List.mem_cons_self
  have h2:=mul_bd (a:=lie) (b:=cols) (A:=1000) (B:=8) (by omega) (by omega)
  have h3:=mul_bd (a:=lie) (b:=sizeV t.2) (A:=1000) (B:=8) (by omega) (size_bd _)
  simp only [manyR,List.length_cons]
  cases hasB t.1 (k:Nat)<;>simp only [cond_true,cond_false]<;>omega
theorem manyR_app {t:Truth} {cols:Int} (a:Int):∀ (l:List Int) (k:Nat),manyR t cols (l++[a]) k=manyR t cols l k+cond (hasB t.1 ((k+l.length:Nat):Int)) (a*cols) (a*sizeV t.2)
 | [],k=>by simp [manyR]
 | b::l,k=>by
  simp only [List.cons_append,manyR,manyR_app a l (k+1),List.length_cons]
  rw [show k+1+l.length=k+(l.length+1) by omega]
  omega
theorem take_one {α:Type} (l:List α) (d:α) (i:Int) (h0:0≤i) (h:i<(l.length:Int)):l.take (i+1).toNat=l.take i.toNat++[l.getD i.toNat d]:=by
 have e:(i+1).toNat=i.toNat+1:=by omega
 have h':i.toNat<l.length:=by omega
 rw [e,List.take_succ_eq_append_getElem h']
 simp [List.getD,h']
theorem many_bd {t:Truth} {c:Crate} (hc:CrateOk c):0≤manyV t c∧manyV t c≤64000:=by
 have:=manyR_bd (t:=t) (cols:=c.2.1) ⟨hc.c1,hc.c8⟩ (l:=c.1) (k:=0) hc.lie
 have h8:=hc.r8
 unfold manyV
 omega
theorem v68 (x:Truth × Crate) (h:k68.pre x):V68 x:=by
 obtain ⟨⟨ht1,ht2⟩,hc⟩:=h
 have hc:=crate_iff.1 hc
 have hr8:=hc.r8
 refine ⟨fun s=>(0≤s.2∧s.2≤(x.2.1.length:Int))∧s.1=manyR x.1 x.2.2.1 (x.2.1.take s.2.toNat) 0,fun s=>((x.2.1.length:Int) - s.2).toNat,⟨⟨by simp,by simp⟩,rfl⟩,?_⟩
 rintro ⟨n,k⟩ ⟨⟨h1,h2⟩,h3⟩
 simp only at h1 h2 h3 ⊢
 refine ⟨fun hlt=>?_,fun hlt=>?_⟩
 ·have hlt:=of_decide_eq_true hlt
  have hmem:=hc.lie _ (getD_mem' x.2.1 0 k h1 hlt)
  have hb:=manyR_bd (t:=x.1) (cols:=x.2.2.1) ⟨hc.c1,hc.c8⟩ (l:=x.2.1.take k.toNat) (k:=0) fun n hn=>hc.lie n (List.mem_of_mem_take hn)
  have hlen:((x.2.1.take k.toNat).length:Int)=k:=by rw [List.length_take];omega
  rw [hlen,←h3] at hb
  have hm1:=mul_bd (a:=x.2.1.getD k.toNat 0) (b:=x.2.2.1) (A:=1000) (B:=8) (by omega) ⟨by have:=hc.c1;omega,hc.c8⟩
  have hm2:=mul_bd (a:=x.2.1.getD k.toNat 0) (b:=sizeV x.1.2) (A:=1000) (B:=8) (by omega) (size_bd _)
  have e:=take_one x.2.1 0 k h1 hlt
  have hstep:=manyR_app (t:=x.1) (cols:=x.2.2.1) (x.2.1.getD k.toNat 0) (x.2.1.take k.toNat) 0
  rw [←e,Nat.zero_add,show ((x.2.1.take k.toNat).length:Int)=k from hlen] at hstep
  refine ⟨⟨h1,hlt⟩,⟨ht1.1,h1,by show k<64;omega⟩,fun hb'=>?_,fun hb'=>⟨ht2,by simp only [Z.in64,xray_set_size];omega,by simp only [Z.in64,xray_set_size];omega,by simp only [Z.in64];omega,⟨⟨by omega,by omega⟩,?_⟩,by show ((x.2.1.length:Int) - (k+1)).toNat<((x.2.1.length:Int) - k).toNat;omega⟩⟩
  ·refine ⟨by simp only [Z.in64];omega,by simp only [Z.in64];omega,by simp only [Z.in64];omega,⟨⟨by omega,by omega⟩,?_⟩,by show ((x.2.1.length:Int) - (k+1)).toNat<((x.2.1.length:Int) - k).toNat;omega⟩
   rw [hstep,show hasB x.1.1 k=true from hb',h3];rfl
  ·rw [hstep,show hasB x.1.1 k=false from hb',h3];rfl
 ·have hlt:=of_decide_eq_false hlt
  rw [h3,List.take_of_length_le (by omega)]
  rfl
theorem ends_app (a:Int) (l:List Int) (b:Int):endsV a (l++[b])=(min (endsV a l).1 b,max (endsV a l).2 b):=by simp only [endsV,List.foldl_append,List.foldl_cons,List.foldl_nil]
theorem v69 (x:Int × List Int) (h:k69.pre x):V69 x:=by
 have h:x.2.length≤big:=h
 simp only [big] at h
 refine ⟨fun s=>(0≤s.2.2∧s.2.2≤(x.2.length:Int))∧(s.1,s.2.1)=endsV x.1 (x.2.take s.2.2.toNat),fun s=>((x.2.length:Int) - s.2.2).toNat,⟨⟨by simp,by simp⟩,rfl⟩,?_⟩
 rintro ⟨a,b,k⟩ ⟨⟨h1,h2⟩,h3⟩
 simp only at h1 h2 h3 ⊢
 refine ⟨fun hlt=>?_,fun hlt=>?_⟩
 ·have hlt:=of_decide_eq_true hlt
  refine ⟨⟨h1,hlt⟩,by simp only [Z.in64];omega,⟨⟨by omega,by omega⟩,?_⟩,by show ((x.2.length:Int) - (k+1)).toNat<((x.2.length:Int) - k).toNat;omega⟩
  rw [take_one x.2 0 k h1 hlt,ends_app,←h3]
 ·have hlt:=of_decide_eq_false hlt
  show (a,b)=endsV x.1 x.2
  rw [h3,List.take_of_length_le (by omega)]
end Go.Xr
