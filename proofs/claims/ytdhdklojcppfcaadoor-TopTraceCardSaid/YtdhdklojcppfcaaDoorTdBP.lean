/-
  Box: the conditions.
-/
import Derived.Test.YtdhdklojcppfcaaDoorTdAuto
set_option linter.all false
set_option maxRecDepth 100000
set_option maxHeartbeats 4000000
namespace Go.Td
open Go Go.Sx
theorem has_div {s n:Int} (hs:0<=s) (hn:0<=n):((((Int.toNat (Int.fdiv s (2^(Int.toNat n)))) &&& (Int.toNat (1)):Nat):Int)==1)=hasB s n:=by
 obtain ⟨m,rfl⟩:=Int.eq_ofNat_of_zero_le hs
 obtain ⟨k,rfl⟩:=Int.eq_ofNat_of_zero_le hn
 have e:Int.fdiv (m:Int) (2^(Int.toNat (k:Int)))=((m / 2^k:Nat):Int):=by
  rw [Int.fdiv_eq_ediv_of_nonneg _ (Int.le_of_lt (Int.pow_pos (by decide)))]
  simp
 rw [e]
 simp only [hasB,Int.toNat_natCast,Nat.testBit_eq_decide_div_mod_eq]
 have:Int.toNat 1=1:=rfl
 rw [this,Nat.and_one_is_mod]
 rw [Bool.eq_iff_iff]
 simp only [beq_iff_eq,decide_eq_true_eq]
 omega
theorem take_map {α β:Type} (f:α->β) (l:List α) (d:α) (i:Int) (h0:0<=i) (h:i<(l.length:Int)):(l.take (i+1).toNat).map f=(l.take i.toNat).map f++[f (l.getD i.toNat d)]:=by
 have e:(i+1).toNat=i.toNat+1:=by omega
 have h':i.toNat<l.length:=by omega
 rw [e,List.take_succ_eq_append_getElem h',List.map_append]
 simp [List.getD,h']
theorem pow_int (k:Int):(2^k.toNat:Int)=((2^k.toNat:Nat):Int):=by simp
theorem shl_ok {k:Int} (h0:0<=k) (h8:k<62):((0:Int)<=k∧k<64)∧Z.in64 (1*2^k.toNat):=by
 refine ⟨⟨h0,by omega⟩,?_⟩
 have:(2:Nat)^k.toNat<=2^62:=Nat.pow_le_pow_right (by decide) (by omega)
 simp only [Z.in64]
 rw [Int.one_mul,pow_int]
 generalize 2^k.toNat=m at *
 omega
theorem pow_nn (k:Int):(0:Int)<=1*2^k.toNat:=by
 rw [Int.one_mul,pow_int]
 exact Int.natCast_nonneg _
theorem selS_app (p:Nat->Bool) (a:Int):∀ (l:List Int) (k:Nat),selS p (l++[a]) k=selS p l k+cond (p (k+l.length)) a 0
 | [],k=>by simp [selS]
 | b::l,k=>by
  simp only [List.cons_append,selS,selS_app p a l (k+1),List.length_cons]
  have:k+1+l.length=k+(l.length+1):=by omega
  rw [this];omega
theorem v19 (x:List Int) (h:k19.pre x):V19 x:=by
 have h:x.length<=1000:=h
 have e:(List.replicate 0 (0:Int))++x=x:=rfl
 refine ⟨trivial,fun hx=>⟨fun _=>?_,fun h=>(by cases h)⟩,fun h=>(by cases h),fun _=>⟨roomy_of (by decide) (by decide) (by rw [e];omega),rfl⟩⟩
 exact hx.symm
def under (n:Nat) (X:Int):Prop:=0<=X∧X<2^n
theorem under_nat {n:Nat} {X:Int} (h:under n X):∃ m:Nat,X=(m:Int)∧m<2^n:=by
 refine ⟨X.toNat,by have:=h.1;omega,?_⟩
 have h1:=h.1
 have h2:=h.2
 have:(2^n:Int)=((2^n:Nat):Int):=by simp
 rw [this] at h2
 omega
theorem under_small {n:Nat} {X:Int} (hn:n<=8) (h:under n X):smallSet X:=by
 obtain ⟨m,rfl,hm⟩:=under_nat h
 have:2^n<=2^8:=Nat.pow_le_pow_right (by decide) hn
 simp only [smallSet];omega
theorem take_getD (l:List Int) (i:Int) (h0:0<=i) (h:i<(l.length:Int)):l.take (i+1).toNat=l.take i.toNat++[l.getD i.toNat 0]:=by
 have:=take_map (id:Int->Int) l 0 i h0 h
 simpa using this
theorem selS_step (p:Nat->Bool) (l:List Int) (i:Int) (h0:0<=i) (h:i<(l.length:Int)):selS p (l.take (i+1).toNat) 0=selS p (l.take i.toNat) 0+cond (p i.toNat) (l.getD i.toNat 0) 0:=by
 rw [take_getD l i h0 h,selS_app]
 congr 2
 rw [List.length_take]
 congr 1
 omega
theorem pow_nat (n:Nat):(2^n:Int)=((2^n:Nat):Int):=by simp
theorem wrapU {n:Int} (h:0<=n∧n<=18446744073709551615):Go.IntKind.wrap .u64 n=n:=by
 unfold Go.IntKind.wrap
 simp [IntKind.bits,IntKind.signed]
 omega
theorem wrapI {n:Int} (h:-9223372036854775808<=n∧n<=9223372036854775807):Go.IntKind.wrap .i64 n=n:=by
 unfold Go.IntKind.wrap
 simp [IntKind.bits,IntKind.signed]
 omega
theorem half {i j:Int} (h0:0<=i) (h:i<j) (hj:j<=1152921504606846976):Go.IntKind.wrap .i64 (Int.fdiv (Go.IntKind.wrap .u64 (i+j)) (2^(Int.toNat (1))))=Int.fdiv (i+j) 2∧i<=Int.fdiv (i+j) 2∧Int.fdiv (i+j) 2<j:=by
 have e1:Go.IntKind.wrap .u64 (i+j)=i+j:=wrapU ⟨by omega,by omega⟩
 rw [e1,show (2:Int)^(Int.toNat 1)=2 from rfl,Int.fdiv_eq_ediv_of_nonneg _ (by decide)]
 refine ⟨?_,by omega,by omega⟩
 exact wrapI ⟨by omega,by omega⟩
theorem srch_bd {f:Int->Bool}:∀ (n:Nat) (i j:Int),i<=j->i<=srch f n i j∧srch f n i j<=j
 | 0,i,j,h=>⟨Int.le_refl _,h⟩
 | n+1,i,j,h=>by
  rw [srch]
  cases hd:decide (i<j) with
  | false=>exact ⟨Int.le_refl _,h⟩
  | true =>
   have hl:=of_decide_eq_true hd
   have e:Int.fdiv (i+j) 2=(i+j) / 2:=Int.fdiv_eq_ediv_of_nonneg _ (by decide)
   rw [cond_true,e]
   cases f ((i+j) / 2) with
   | true=>have:=srch_bd (f:=f) n i ((i+j) / 2) (by omega);rw [cond_true];omega
   | false=>have:=srch_bd (f:=f) n ((i+j) / 2+1) j (by omega);rw [cond_false];omega
theorem srch_end {f:Int->Bool} {i j:Int} (h:j<=i):∀ n,srch f n i j=i
 | 0=>rfl
 | n+1=>by rw [srch,show decide (i<j)=false from decide_eq_false (by omega)];rfl
theorem v32 (x:Int × Fun Int Bool) (h:k32.pre x):V32 x:=by
 obtain ⟨n,F⟩:=x
 obtain ⟨⟨n0,n1⟩,hp⟩:zds (n,F):=h
 simp only at n0 n1 hp
 refine ⟨fun s=>(0<=s.1∧s.1<=s.2∧s.2<=n)∧∃ f:Nat,s.2 - s.1<=f∧srch F.val f s.1 s.2=zdt (n,F),fun s=>(s.2 - s.1).toNat,⟨⟨by simp,by simpa using n0,by simp⟩,n.toNat,by simp only;omega,rfl⟩,?_⟩
 rintro ⟨i,j⟩ ⟨⟨b1,b2,b3⟩,f,hf,he⟩
 simp only at b1 b2 b3 hf he ⊢
 refine ⟨fun hl=>?_,fun hl=>?_⟩
 ·have hl':=hl
  have hl:=of_decide_eq_true hl
  obtain ⟨e,g1,g2⟩:=half b1 hl (by omega)
  rw [e]
  obtain ⟨m,hm⟩:∃ m,m=Int.fdiv (i+j) 2:=⟨_,rfl⟩
  rw [<-hm] at g1 g2
  rw [<-hm]
  obtain ⟨f',rfl⟩:∃ f',f=f'+1:=⟨f - 1,by omega⟩
  rw [srch,hl',cond_true,<-hm] at he
  refine ⟨by simp only [Z.in64];omega,by decide,hp m (by omega) (by omega),fun hv=>?_,fun hv=>?_⟩
  ·rw [not_iff.1.1 hv,cond_false] at he
   refine ⟨by simp only [Z.in64];omega,⟨⟨by show 0<=m+1;omega,by show m+1<=j;omega,b3⟩,f',by show j - (m+1)<=_;omega,he⟩,?_⟩
   show (j - (m+1)).toNat<(j - i).toNat
   omega
  ·rw [not_iff.2.1 hv,cond_true] at he
   refine ⟨⟨⟨b1,by show i<=m;omega,by show m<=n;omega⟩,f',by show m - i<=_;omega,he⟩,?_⟩
   show (m - i).toNat<(j - i).toNat
   omega
 ·have hl:=of_decide_eq_false hl
  rw [<-he,srch_end (by omega)]
theorem v30 (x:Int × Int × Int) (_:k30.pre x):V30 x:=rfl
theorem v41 (x:Int) (_:k41.pre x):V41 x:=⟨trivial,rfl⟩
theorem all_len (n:Nat):(1*2^(Int.toNat (n:Int)):Int) - 1=allV n:=by
 simp only [allV,Int.toNat_natCast,Int.one_mul]
theorem v42 (x:Pile × List Int) (h:k42.pre x):V42 x:=by
 have h:x.2.length<=8:=h
 have e:=all_len x.2.length
 obtain ⟨h1,h2⟩:=shl_ok (k:=(x.2.length:Int)) (by omega) (by omega)
 simp only [V42,e]
 refine ⟨⟨h1,h2⟩,?_,trivial,fun _=>trivial,?_⟩
 ·rw [<-e]
  have:=pow_nn (x.2.length:Int)
  simp only [Z.in64] at h2 ⊢
  omega
 ·show ((!inB x.1.1 0 (allV x.2.length))||(!inB x.1.2 0 1048576))=!pileB x.2.length x.1
  simp only [pileB,Bool.not_and]
theorem v49 (x:(List Int) × Fun Int Bool) (h:k49.pre x):V49 x:=ixF_loop x.1 0 x.2 h.1 h.2
theorem v37 (x:(List Int) × Fun Int Bool) (h:k37.pre x):V37 x:=⟨h,any_ix _ _⟩
theorem v50 (x:(List Pile) × Fun Pile Bool) (h:k50.pre x):V50 x:=ixF_loop x.1 (0,0) x.2 h.1 h.2
theorem v43 (x:(List Pile) × Fun Pile Bool) (h:k43.pre x):V43 x:=⟨h,any_ix _ _⟩
theorem v44 (x:List Int) (h:k44.pre x):V44 x:=by
 have h:1<=x.length∧x.length<=big:=h
 refine ⟨fun h1=>?_,fun _=>⟨⟨by omega,by omega⟩,?_⟩⟩
 ·have:=of_decide_eq_true h1;omega
 cases x with
 | nil=>simp at h
 | cons a l =>
  refine ⟨fun s=>(1<=s.2∧s.2<=((a::l).length:Int))∧((a::l).drop s.2.toNat).foldl max s.1=maxV (a::l),fun s=>(((a::l).length:Int) - s.2).toNat,⟨⟨by simp,by simp only [List.length_cons];omega⟩,?_⟩,?_⟩
  ·show (l.foldl max a)=_;rfl
  rintro ⟨m,s⟩ ⟨⟨s1,s2⟩,s3⟩
  simp only at s1 s2 s3 ⊢
  refine ⟨fun hd=>?_,fun hd=>?_⟩
  ·have hd:=of_decide_eq_true hd
   refine ⟨⟨by omega,hd⟩,by simp only [Z.in64,big] at *;omega,⟨⟨by omega,by omega⟩,?_⟩,by omega⟩
   rw [drop_getD' (a::l) 0 s (by omega) hd,List.foldl_cons] at s3
   exact s3
  ·have hd:=of_decide_eq_false hd
   rw [List.drop_eq_nil_of_le (by omega)] at s3
   exact s3
theorem v29 (x:(List Int) × List Pile) (_:k29.pre x):V29 x:=by
 have hin:∀ {b:Bool},((zaZ ((x.1.length:Int),1,8)&&decide (((x.2.length:Int):Int)<=8))&&b)=true->x.1.length<=8∧1<=x.1.length∧x.2.length<=8:=by
  intro b h
  have h:=Bool.and_eq_true _ _▸h
  have h:=Bool.and_eq_true _ _▸h.1
  have h1:=inB_iff.1 (show inB (x.1.length:Int) 1 8=true from h.1)
  have h2:=of_decide_eq_true h.2
  omega
 refine ⟨trivial,fun h=>?_,fun h=>?_,fun h=>?_,?_⟩
 ·have:=hin (b:=true) (by rw [h];rfl)
  exact ⟨by show x.1.length<=big;simp only [big];omega,fun _ _=>trivial⟩
 ·have:=hin h
  exact ⟨by show x.2.length<=big;simp only [big];omega,fun _ _=>this.1⟩
 ·have h:=Bool.and_eq_true _ _▸h
  have:=hin h.1
  exact ⟨this.2.1,by simp only [big];omega⟩
 ·show ((((inB (x.1.length:Int) 1 8&&decide ((x.2.length:Int)<=8))&&!(x.1.any fun a=>!needB a))&&!(x.2.any fun a=>!pileB x.1.length a))&&decide ((0:Int)<maxV x.1))=boxB x.1 x.2
  rw [any_not,any_not];rfl
theorem v17 (x:Int × Int) (h:k17.pre x):V17 x:=by
 obtain ⟨h1,h2,h3⟩:0<=x.1∧0<=x.2∧x.2<64:=h
 refine ⟨⟨h2,h3⟩,⟨?_,by decide⟩,has_div h1 h2⟩
 rw [Int.fdiv_eq_ediv_of_nonneg _ (Int.le_of_lt (Int.pow_pos (by decide)))]
 exact Int.ediv_nonneg h1 (Int.le_of_lt (Int.pow_pos (by decide)))
theorem v55 (x:Int × Int) (h:k55.pre x):V55 x:=⟨h,rfl⟩
theorem v48 (x:Int) (_:k48.pre x):V48 x:=rfl
theorem v16 (x:List Pile) (h:k16.pre x):V16 x:=by
 have h:x.length<=big:=h
 have hr:Z.roomy 2 (((List.replicate 0 ((0,0):Pile))++x).length:Int):=by
  simp only [Z.roomy,big] at *;simp;omega
 exact ⟨trivial,fun h0=>⟨fun _=>h0.symm,(fun h=>by cases h)⟩,(fun h=>by cases h),fun _=>⟨hr,rfl⟩⟩
theorem v33 (x:Int × Fun Int Bool) (h:k33.pre x):V33 x:=by
 obtain ⟨⟨h1,h2⟩,h3⟩:(0<=x.1∧x.1<=most40)∧x.2.pre (x.1+1):=h
 exact ⟨by simp only [Z.in64,most40] at *;omega,h3,rfl⟩
theorem v20 (x:Int × Fun Int Bool) (h:k20.pre x):V20 x:=by
 obtain ⟨⟨h1,h2⟩,h3⟩:(0<=x.1∧x.1<=most40)∧∀ i,1<=i->i<=x.1->x.2.pre i:=h
 exact ⟨⟨⟨h1,by simp only [most40] at *;omega⟩,fun i i0 i1=>⟨⟨i0,by simp only [most40] at *;omega⟩,h3 _ (by omega) (by omega)⟩⟩,rfl⟩
theorem v14 (x:(List Int) × Int) (h:k14.pre x):V14 x:=by
 obtain ⟨h8,hn,h0,h1⟩:x.1.length<=8∧(∀ n∈x.1,0<=n∧n<=48)∧0<=x.2∧x.2<=8388609:=h
 refine ⟨(by show x.1.length<=1000;omega),fun s=>(0<=s.1∧s.1<=(x.1.length:Int))∧s.2=(timesV (x.1.take s.1.toNat) x.2)++x.1.drop s.1.toNat,fun s=>((x.1.length:Int) - s.1).toNat,⟨⟨by simp,by simp⟩,rfl⟩,?_⟩
 rintro ⟨i,l⟩ ⟨⟨i0,i1⟩,e⟩
 simp only at i0 i1 e ⊢
 have hlen:l.length=x.1.length:=by
  rw [e,List.length_append,timesV,List.length_map,List.length_take,List.length_drop];omega
 refine ⟨fun hd=>?_,fun hd=>?_⟩
 ·have hd:i<(x.1.length:Int):=of_decide_eq_true hd
  have hd':i.toNat<x.1.length:=by omega
  have hg:l.getD i.toNat 0=x.1.getD i.toNat 0:=by
   rw [e,List.getD_eq_getElem?_getD,List.getElem?_append_right (by simp [timesV];omega)]
   simp only [timesV,List.length_map,List.length_take,List.getElem?_drop]
   rw [List.getD_eq_getElem?_getD]
   congr 2
   omega
  have hb:=hn _ (zcv x.1 0 i i0 hd)
  have hm:0<=x.1.getD i.toNat 0*x.2∧x.1.getD i.toNat 0*x.2<=48*8388609:=by
   constructor
   ·exact Int.mul_nonneg hb.1 h0
   ·exact Int.mul_le_mul hb.2 h1 h0 (by decide)
  rw [hg]
  refine ⟨⟨i0,by omega⟩,by simp only [Z.in64];omega,⟨i0,by omega⟩,by simp only [Z.in64];omega,⟨⟨by omega,by omega⟩,?_⟩,by omega⟩
  rw [e,take_map (fun n=>n*x.2) x.1 0 i i0 hd |> (fun h=>show timesV (x.1.take (i+1).toNat) x.2=timesV (x.1.take i.toNat) x.2++[x.1.getD i.toNat 0*x.2] from h)]
  rw [List.set_append_right _ _ (by simp [timesV];omega)]
  have h5:(timesV (x.1.take i.toNat) x.2).length=i.toNat:=by simp [timesV];omega
  rw [h5,Nat.sub_self,drop_getD' x.1 0 i i0 hd]
  simp
 ·have hd:=of_decide_eq_false hd
  have hd:¬ i<(x.1.length:Int):=hd
  show l=timesV x.1 x.2
  rw [e,List.take_of_length_le (by omega),List.drop_eq_nil_of_le (by omega),List.append_nil]
theorem selS_b40 {p:Nat->Bool}:∀ {l:List Int} {k:Nat},(∀ a∈l,0<=a∧a<=most40)->0<=selS p l k∧selS p l k<=most40*(l.length:Int)
 | [],k,_=>by simp [selS]
 | a::l,k,h=>by
  have:=selS_b40 (p:=p) (l:=l) (k:=k+1) fun b hb=>h b (List.mem_cons_of_mem _ hb)
  have ha:=h a List.mem_cons_self
  simp only [most40] at ha this ⊢
  simp only [selS,List.length_cons]
  cases p k<;>simp only [cond_true,cond_false]<;>omega
theorem sum_b40 {l:List Int} (h8:l.length<=8) (h:∀ a∈l,0<=a∧a<=most40) (s:Int):0<=sumV s l∧sumV s l<=most40*8:=by
 have:=selS_b40 (p:=fun k=>hasB s (k:Nat)) (k:=0) h
 simp only [sumV,most40] at this ⊢
 omega
theorem v51 (x:Int × List Int) (h:k51.pre x):V51 x:=by
 obtain ⟨hs,h8,hb⟩:0<=x.1∧x.2.length<=8∧∀ n∈x.2,0<=n∧n<=most40:=h
 refine ⟨fun s=>(0<=s.2∧s.2<=(x.2.length:Int))∧s.1=sumV x.1 (x.2.take s.2.toNat),fun s=>((x.2.length:Int) - s.2).toNat,⟨⟨by simp,by simp⟩,rfl⟩,?_⟩
 rintro ⟨a,i⟩ ⟨⟨i0,i1⟩,e⟩
 simp only at i0 i1 e ⊢
 refine ⟨fun hd=>?_,fun hd=>?_⟩
 ·have hd:i<(x.2.length:Int):=of_decide_eq_true hd
  have hg:=hb _ (zcv x.2 0 i i0 hd)
  have hs2:sumV x.1 (x.2.take (i+1).toNat)=a+cond (hasB x.1 i) (x.2.getD i.toNat 0) 0:=by
   rw [e,sumV,selS_step _ _ _ i0 hd]
   have:((i.toNat:Nat):Int)=i:=by omega
   rw [this];rfl
  have hab:=sum_b40 (l:=x.2.take i.toNat) (by rw [List.length_take];omega) (fun a ha=>hb a (List.mem_of_mem_take ha)) x.1
  rw [<-e] at hab
  refine ⟨⟨i0,hd⟩,⟨hs,i0,by show i<64;omega⟩,fun hh=>⟨?_,?_,⟨⟨by omega,by omega⟩,?_⟩,by omega⟩,fun hh=>⟨?_,⟨⟨by omega,by omega⟩,?_⟩,by omega⟩⟩
  ·simp only [Z.in64,most40] at *;omega
  ·simp only [Z.in64];omega
  ·have hh:hasB x.1 i=true:=hh
   rw [hs2,hh];rfl
  ·simp only [Z.in64];omega
  ·have hh:hasB x.1 i=false:=hh
   rw [hs2,hh,cond_false,Int.add_zero]
 ·have hd:=of_decide_eq_false hd
  have hd:¬ i<(x.2.length:Int):=hd
  show a=sumV x.1 x.2
  rw [e,List.take_of_length_le (by omega)]
theorem sets_len (n:Nat):(setsV n).length=2^n - 1:=by simp [setsV]
theorem sets_mem {n:Nat} {s:Int}:s∈setsV n↔1<=s∧s<2^n:=by
 simp only [setsV,List.mem_map,List.mem_range]
 rw [pow_nat]
 generalize 2^n=m
 constructor
 ·rintro ⟨k,hk,rfl⟩;omega
 ·rintro ⟨h1,h2⟩;exact ⟨(s - 1).toNat,by omega,by omega⟩
theorem sets_small {n:Nat} (hn:n<=8) {s:Int} (h:s∈setsV n):smallSet s:=by
 obtain ⟨h1,h2⟩:=sets_mem.1 h
 exact under_small hn ⟨by omega,h2⟩
theorem sets_drop {n:Nat} {s:Int} (h0:1<=s) (h:s<2^n):(setsV n).drop (s - 1).toNat=s::(setsV n).drop s.toNat:=by
 rw [pow_nat] at h
 have hl:(s - 1).toNat<(setsV n).length:=by rw [sets_len];omega
 rw [List.drop_eq_getElem_cons hl]
 have e:(s - 1).toNat+1=s.toNat:=by omega
 rw [e]
 congr 1
 simp only [setsV,List.getElem_map,List.getElem_range]
 omega
theorem v54 (ly:Nat) (x:Int) (h:zdI x):V54 ly x:=by
 obtain ⟨h0,h8⟩:0<=x∧x<=8:=h
 have e:(1*2^(Int.toNat x):Int)=2^x.toNat:=Int.one_mul _
 obtain ⟨s1,s2⟩:=shl_ok (k:=x) h0 (by omega)
 simp only [e] at s2
 have hp:(2:Int)^x.toNat<=256:=by
  have:(2:Nat)^x.toNat<=2^8:=Nat.pow_le_pow_right (by decide) (by omega)
  rw [pow_nat];omega
 simp only [V54,e]
 have hval:zcl x=setsV x.toNat:=rfl
 rw [hval]
 have hpos:(1:Int)<=2^x.toNat:=Int.pow_pos (by decide)
 refine ⟨fun s=>((1<=s.1∧s.1<=2^x.toNat)∧s.2.2=false)∧setsV x.toNat=s.2.1++(setsV x.toNat).drop (s.1 - 1).toNat,fun s=>(2^x.toNat - s.1).toNat,⟨⟨⟨by simp,by simpa using hpos⟩,rfl⟩,by simp⟩,?_⟩
 rintro ⟨s,l,b⟩ ⟨⟨⟨i0,i1⟩,hb⟩,he⟩
 simp only at i0 i1 hb he ⊢
 subst hb
 refine ⟨trivial,trivial,⟨s1,s2⟩,trivial,trivial,trivial,trivial,fun hd=>?_,fun hd=>⟨trivial,(fun h=>by simp at h),fun _ _=>?_⟩⟩
 ·have hd':=of_decide_eq_true hd
  rw [sets_drop i0 hd'] at he
  rw [hd]
  have e3:(s+1 - 1).toNat=s.toNat:=by omega
  refine ⟨⟨by first | rfl | trivial,by first | rfl | trivial⟩,⟨_,he⟩,⟨trivial,fun _=>⟨by simp only [Z.in64];omega,⟨⟨⟨by omega,by omega⟩,by first | rfl | trivial⟩,?_⟩,by omega⟩,(fun h=>by cases h)⟩,trivial,(fun h=>by cases h),(fun _ h=>by cases h)⟩
  rw [e3,List.append_assoc]
  exact he
 ·have hd:=of_decide_eq_false hd
  rw [he,List.drop_eq_nil_of_le (by rw [sets_len];rw [pow_nat] at hd;omega),List.append_nil]
theorem v47 (x:Sx.Seq Int) (h:k47.pre x):V47 x:=by
 obtain ⟨h1,h2⟩:x.1∧x.2.length<=big:=h
 refine ⟨trivial,h1,fun l s=>s.2++l=x.2,rfl,fun e r z hz=>⟨?_,?_⟩,fun z hz=>⟨trivial,?_⟩⟩
 ·have:=congrArg List.length hz
  simp only [List.length_append,List.length_cons] at this
  simp only [Z.roomy,big] at *
  simp
  omega
 ·show (z.2++[e])++r=x.2
  rw [<-hz,List.append_assoc];rfl
 ·have hz:z.2++[]=x.2:=hz
  rw [List.append_nil] at hz
  exact hz
theorem put_at (k:Stock) (p:Pile) (t:Int):putV k p t=cond (t==p.1) (some ((k p.1).getD 0+p.2)) (k t):=rfl
theorem new_step (l:List Pile) (i:Int) (h0:0<=i) (h:i<(l.length:Int)):newV (l.take (i+1).toNat)=putV (newV (l.take i.toNat)) (l.getD i.toNat (0,0)):=by
 have e:l.take (i+1).toNat=l.take i.toNat++[l.getD i.toNat (0,0)]:=by
  have e:(i+1).toNat=i.toNat+1:=by omega
  have h':i.toNat<l.length:=by omega
  rw [e,List.take_succ_eq_append_getElem h']
  simp [List.getD,h']
 rw [newV,e,List.foldl_append];rfl
structure StockIs (k:Stock) (n:Nat):Prop where
 key:∀ t v,k t=some v->smallSet t
 val:∀ t v,k t=some v->0<=v∧v<=topN*(n:Int)
theorem StockIs.at {k:Stock} {n:Nat} (h:StockIs k n) (t:Int):0<=(k t).getD 0∧(k t).getD 0<=topN*(n:Int):=by
 cases e:k t with
 | none=>simp only [Option.getD_none,topN];omega
 | some v=>exact h.val t v e
theorem put_is {k:Stock} {n:Nat} {p:Pile} (h:StockIs k n) (hp:smallSet p.1∧amount p.2):StockIs (putV k p) (n+1):=by
 have h3:=h.at p.1
 have h4:=hp.2
 simp only [amount,topN] at h3 h4
 refine ⟨fun t v e=>?_,fun t v e=>?_⟩
 ·rw [put_at] at e
  cases ht:(t==p.1) with
  | true=>rw [eq_of_beq ht];exact hp.1
  | false=>rw [ht] at e;exact h.key t v e
 ·rw [put_at] at e
  cases ht:(t==p.1) with
  | true =>
   rw [ht] at e
   have e:=Option.some.inj e
   simp only [topN]
   omega
  | false=>rw [ht] at e;have:=h.val t v e;simp only [topN] at this ⊢;omega
theorem new_is:∀ (l:List Pile) (k:Stock) (n:Nat),StockIs k n->(∀ p∈l,smallSet p.1∧amount p.2)->StockIs (l.foldl putV k) (n+l.length)
 | [],k,n,h,_=>h
 | p::l,k,n,h,hp=>by
  have:=new_is l (putV k p) (n+1) (put_is h (hp p List.mem_cons_self)) fun q hq=>hp q (List.mem_cons_of_mem _ hq)
  rw [show n+(p::l).length=n+1+l.length from by simp;omega]
  exact this
theorem none_is:StockIs (fun _=>none) 0:=⟨(fun _ _ h=>by cases h),(fun _ _ h=>by cases h)⟩
theorem new_ok {l:List Pile} (hl:l.length<=8) (hp:∀ p∈l,smallSet p.1∧amount p.2):StockOk (newV l):=by
 have h:=new_is l _ 0 none_is hp
 refine ⟨h.key,fun t v e=>?_⟩
 have:=h.val t v e
 simp only [topN] at this
 omega
theorem v45 (x:List Pile) (h:k45.pre x):V45 x:=by
 obtain ⟨h8,hp⟩:x.length<=8∧∀ p∈x,smallSet p.1∧amount p.2:=h
 refine ⟨fun s=>(0<=s.1∧s.1<=(x.length:Int))∧s.2=newV (x.take s.1.toNat),fun s=>((x.length:Int) - s.1).toNat,⟨⟨by simp,by simp⟩,rfl⟩,?_⟩
 rintro ⟨i,k⟩ ⟨⟨i0,i1⟩,e⟩
 simp only at i0 i1 e ⊢
 refine ⟨fun hd=>?_,fun hd=>?_⟩
 ·have hd:i<(x.length:Int):=of_decide_eq_true hd
  have hg:=hp _ (zcv x (0,0) i i0 hd)
  have hi:=(new_is (x.take i.toNat) _ 0 none_is (fun p hq=>hp p (List.mem_of_mem_take hq))).at (x.getD i.toNat (0,0)).1
  have hi:0<=(k (x.getD i.toNat (0,0)).1).getD 0∧(k (x.getD i.toNat (0,0)).1).getD 0<=topN*((0+(x.take i.toNat).length:Nat):Int):=by rw [e];exact hi
  have h9:((0+(x.take i.toNat).length:Nat):Int)<=8:=by rw [List.length_take];omega
  have h4:=hg.2
  simp only [amount,topN] at hi h4
  refine ⟨⟨i0,hd⟩,by simp only [Z.in64];omega,by simp only [Z.in64];omega,⟨⟨by omega,by omega⟩,?_⟩,by omega⟩
  rw [new_step x i i0 hd,<-e];rfl
 ·have hd:¬ i<(x.length:Int):=of_decide_eq_false hd
  show k=newV x
  rw [e,List.take_of_length_le (by omega)]
def metB (t:Int) (l:List (Int × Int)):Bool:=l.any fun p=>p.1==t
abbrev ofAt (k:Stock) (s:Int) (t:Nat):Int:=cond (touchB s (t:Nat)) ((k (t:Nat)).getD 0) 0
theorem stock_sum (k:Stock) (s:Int):stockV k s=sumN 256 (ofAt k s):=rfl
def metS (k:Stock) (s:Int) (l:List (Int × Int)):Int:=sumN 256 fun t=>cond (metB (t:Nat) l) (ofAt k s t) 0
theorem met_cons {k:Stock} {s k1 v:Int} {l:List (Int × Int)} (hk:k k1=some v) (h1:smallSet k1) (hn:metB k1 l=false):metS k s ((k1,v)::l)=metS k s l+cond (touchB s k1) v 0:=by
 obtain ⟨m,rfl⟩:=Int.eq_ofNat_of_zero_le h1.1
 have hm:m<256:=by have:=h1.2;omega
 have e:=sumN_upd (n:=256) (k:=m) (f:=fun t=>cond (metB (t:Nat) (((m:Int),v)::l)) (ofAt k s t) 0) (g:=fun t=>cond (metB (t:Nat) l) (ofAt k s t) 0) (fun i _ hi=>by
  have:(((m:Nat):Int)==((i:Nat):Int))=false:=by
   rw [beq_eq_false_iff_ne];omega
  simp only [metB,List.any_cons,this,Bool.false_or])
 rw [if_pos hm] at e
 rw [metS,e,metS]
 have h2:metB (m:Int) (((m:Int),v)::l)=true:=by simp [metB]
 simp only [h2,hn,cond_true,cond_false,ofAt,hk,Option.getD_some]
 omega
theorem ofAt_bd {k:Stock} (h:StockOk k) (s:Int) (t:Nat):0<=ofAt k s t∧ofAt k s t<=1073741824:=by
 simp only [ofAt]
 cases touchB s (t:Nat) with
 | false=>simp
 | true =>
  cases e:k (t:Nat) with
  | none=>simp
  | some v=>exact h.val _ v e
theorem met_bd {k:Stock} (h:StockOk k) (s:Int) (l:List (Int × Int)):0<=metS k s l∧metS k s l<=256*1073741824:=by
 constructor
 ·exact sumN_nonneg fun t _=>by cases metB (t:Nat) l<;>simp only [cond_true,cond_false]<;>first | exact (ofAt_bd h s t).1 | omega
 ·have:=sumN_le (n:=256) (f:=fun t=>cond (metB (t:Nat) l) (ofAt k s t) 0) (g:=fun _=>1073741824) fun t _=>by
   cases metB (t:Nat) l<;>simp only [cond_true,cond_false]<;>first | exact (ofAt_bd h s t).2 | omega
  have e:sumN 256 (fun _=>(1073741824:Int))=256*1073741824:=by decide
  rw [e] at this
  exact this
def unmet (l:List (Int × Int)):Nat:=(List.range 256).countP fun t=>!metB (t:Nat) l
theorem unmet_cons {k1 v:Int} {l:List (Int × Int)} (h1:smallSet k1) (hn:metB k1 l=false):unmet ((k1,v)::l)<unmet l:=by
 obtain ⟨m,rfl⟩:=Int.eq_ofNat_of_zero_le h1.1
 have hm:m<256:=by have:=h1.2;omega
 refine countP_lt (a:=m) (List.mem_range.2 hm) (fun b _ hb=>?_) (by rw [hn];rfl) (by simp [metB])
 simp only [metB,List.any_cons,Bool.not_or,Bool.and_eq_true] at hb
 exact hb.2
theorem not_met {t:Int} {l:List (Int × Int)} (h:∀ p,List.Mem p l->p.1=t->False):metB t l=false:=by
 rw [metB,List.any_eq_false]
 intro p hp he
 exact h p hp (eq_of_beq he)
theorem v52 (x:Stock × Int) (h:k52.pre x):V52 x:=by
 obtain ⟨hk,hs⟩:StockOk x.1∧smallSet x.2:=h
 refine ⟨fun s=>s.2.1=x.1∧s.1=metS x.1 x.2 s.2.2,fun s=>unmet s.2.2,⟨rfl,?_⟩,?_⟩
 ·show 0=metS x.1 x.2 []
  rw [metS,<-sumN_const 256];rfl
 rintro ⟨n,k,l⟩ ⟨e1,e2⟩
 simp only at e1 e2
 subst e1
 refine ⟨fun k1 v2 hv hn=>⟨trivial,fun _=>⟨⟨by omega,by simp⟩,?_,fun ht=>⟨?_,⟨rfl,?_⟩,?_⟩,fun ht=>⟨⟨rfl,?_⟩,?_⟩⟩,(fun h=>by cases h)⟩,fun hall=>⟨trivial,(fun h=>by cases h),fun _=>?_⟩⟩
 ·exact ⟨hs.1,(hk.key _ _ hv).1⟩
 ·have e:=met_cons (s:=x.2) hv (hk.key _ _ hv) (not_met hn)
  have hb:=met_bd hk x.2 ((k1,v2)::l)
  have ht:touchB x.2 k1=true:=ht
  rw [ht,<-e2] at e
  simp only [cond_true] at e
  show Z.in64 (n+v2)
  simp only [Z.in64];omega
 ·have e:=met_cons (s:=x.2) hv (hk.key _ _ hv) (not_met hn)
  have ht:touchB x.2 k1=true:=ht
  rw [ht,<-e2] at e
  exact e.symm
 ·exact unmet_cons (hk.key _ _ hv) (not_met hn)
 ·have e:=met_cons (s:=x.2) hv (hk.key _ _ hv) (not_met hn)
  have ht:touchB x.2 k1=false:=ht
  rw [ht,<-e2] at e
  simp only [cond_false,Int.add_zero] at e
  exact e.symm
 ·exact unmet_cons (hk.key _ _ hv) (not_met hn)
 ·show n=stockV x.1 x.2
  rw [e2,stock_sum,metS]
  refine sumN_congr fun t _=>?_
  cases hm:metB (t:Nat) l with
  | true=>rfl
  | false =>
   cases e:x.1 (t:Nat) with
   | none=>simp only [ofAt,e,Option.getD_none,cond_false];cases touchB x.2 (t:Nat)<;>rfl
   | some v =>
    obtain ⟨p,hp,hp1⟩:=hall (t:Nat) v e
    exfalso
    rw [metB,List.any_eq_false] at hm
    exact hm p hp (by rw [hp1];exact beq_self_eq_true _)
theorem stock_put {k:Stock} {p:Pile} (hp:smallSet p.1) (s:Int):stockV (putV k p) s=stockV k s+cond (touchB s p.1) p.2 0:=by
 obtain ⟨m,hm0⟩:=Int.eq_ofNat_of_zero_le hp.1
 have hm:m<256:=by have:=hp.2;omega
 have e:=sumN_upd (n:=256) (k:=m) (f:=ofAt (putV k p) s) (g:=ofAt k s) (fun i _ hi=>by
  have:(((i:Nat):Int)==p.1)=false:=by
   rw [beq_eq_false_iff_ne];omega
  simp only [ofAt,put_at,this,cond_false])
 rw [if_pos hm] at e
 rw [stock_sum,e,<-stock_sum]
 have h2:(((m:Nat):Int)==p.1)=true:=by rw [hm0];exact beq_self_eq_true _
 simp only [ofAt,put_at,h2,cond_true,Option.getD_some]
 have h3:((m:Nat):Int)=p.1:=hm0.symm
 rw [h3]
 cases touchB s p.1<;>simp only [cond_true,cond_false]<;>omega
theorem stock_new (s:Int):∀ (l:List Pile) (k:Stock),(∀ p∈l,smallSet p.1)->stockV (l.foldl putV k) s=stockV k s+haveV l s
 | [],k,_=>by simp [haveV]
 | p::l,k,h=>by
  rw [List.foldl_cons,stock_new s l _ fun q hq=>h q (List.mem_cons_of_mem _ hq),stock_put (h p List.mem_cons_self),haveV]
  omega
theorem stock_have {l:List Pile} (h:∀ p∈l,smallSet p.1) (s:Int):stockV (newV l) s=haveV l s:=by
 rw [newV,stock_new s l _ h,show stockV (fun _=>none) s=0 from ?_,Int.zero_add]
 rw [stock_sum,<-sumN_const 256]
 refine sumN_congr fun t _=>?_
 simp only [ofAt,Option.getD_none]
 cases touchB s (t:Nat)<;>rfl
theorem worst_congr {d e:Int->Int}:∀ (l:List Int) (b:Int × Int),(∀ s∈l,d s=e s)->l.foldl (fun b s=>cond (decide (b.2<d s)) (s,d s) b) b=l.foldl (fun b s=>cond (decide (b.2<e s)) (s,e s) b) b
 | [],_,_=>rfl
 | a::l,b,h=>by
  rw [List.foldl_cons,List.foldl_cons,h a List.mem_cons_self,worst_congr l _ fun s hs=>h s (List.mem_cons_of_mem _ hs)]
theorem worst_step (d:Int->Int) (l:List Int) (i:Int) (h0:0<=i) (h:i<(l.length:Int)):worstV d (l.take (i+1).toNat)=cond (decide ((worstV d (l.take i.toNat)).2<d (l.getD i.toNat 0))) (l.getD i.toNat 0,d (l.getD i.toNat 0)) (worstV d (l.take i.toNat)):=by
 rw [worstV,take_getD l i h0 h,List.foldl_append];rfl
theorem stockOk_bd {k:Stock} (h:StockOk k) (s:Int):0<=stockV k s∧stockV k s<=256*1073741824:=by
 constructor
 ·rw [stock_sum];exact sumN_nonneg fun t _=>(ofAt_bd h s t).1
 ·have:=sumN_le (n:=256) (f:=ofAt k s) (g:=fun _=>1073741824) fun t _=>(ofAt_bd h s t).2
  have e:sumN 256 (fun _=>(1073741824:Int))=256*1073741824:=by decide
  rw [e] at this
  exact this
theorem v46 (x:Stock × (List Int) × List Int) (h:k46.pre x):V46 x:=by
 obtain ⟨hk,⟨h8,hn⟩,hl,hs⟩:StockOk x.1∧(x.2.1.length<=8∧∀ n∈x.2.1,0<=n∧n<=most40)∧x.2.2.length<=big∧∀ s∈x.2.2,smallSet s:=h
 obtain ⟨d,hd⟩:∃ d:Int->Int,d=fun s=>sumV s x.2.1 - stockV x.1 s:=⟨_,rfl⟩
 have hde:∀ s,zbW (s,x.2.1) - zbn (x.1,s)=d s:=fun s=>by rw [hd];rfl
 have hval:zbG x=worstV d x.2.2:=by rw [hd];rfl
 simp only [V46,hde,hval]
 refine ⟨fun s=>(0<=s.2.2∧s.2.2<=(x.2.2.length:Int))∧(s.1,s.2.1)=worstV d (x.2.2.take s.2.2.toNat),fun s=>((x.2.2.length:Int) - s.2.2).toNat,⟨⟨by simp,by simp⟩,rfl⟩,?_⟩
 rintro ⟨b,n,i⟩ ⟨⟨i0,i1⟩,e⟩
 simp only at i0 i1 e ⊢
 refine ⟨fun hd=>?_,fun hd=>?_⟩
 ·have hd:i<(x.2.2.length:Int):=of_decide_eq_true hd
  have hm:=hs _ (zcv x.2.2 0 i i0 hd)
  have hst:=worst_step d x.2.2 i i0 hd
  rw [<-e] at hst
  have b1:=sum_b40 h8 hn (x.2.2.getD i.toNat 0)
  have b2:=stockOk_bd hk (x.2.2.getD i.toNat 0)
  refine ⟨⟨i0,hd⟩,⟨hm.1,h8,hn⟩,⟨hk,hm⟩,?_,fun hc=>⟨?_,⟨⟨by omega,by omega⟩,?_⟩,by omega⟩,fun hc=>⟨?_,⟨⟨by omega,by omega⟩,?_⟩,by omega⟩⟩
  ·rw [<-hde]
   show Z.in64 (sumV _ _ - stockV _ _)
   simp only [Z.in64,most40] at *;omega
  ·simp only [Z.in64,big] at *;omega
  ·rw [hst];simp only [hc,cond_true]
  ·simp only [Z.in64,big] at *;omega
  ·rw [hst];simp only [hc,cond_false]
 ·have hd:¬ i<(x.2.2.length:Int):=of_decide_eq_false hd
  rw [e,List.take_of_length_le (by omega)]
theorem v31 (x:(List Int) × List Pile) (h:k31.pre x):V31 x:=by
 have h:BoxOk x.1 x.2:=h
 have hp:∀ p∈x.2,smallSet p.1:=fun p hp=>(h.pile p hp).1
 refine ⟨⟨h.l8,h.pile⟩,trivial,⟨⟨by show (0:Int)<=(x.1.length:Int);omega,by show (x.1.length:Int)<=8;have:=h.n8;omega⟩,?_⟩,⟨new_ok h.l8 h.pile,⟨h.n8,h.need⟩,?_,fun s hs=>sets_small h.n8 hs⟩,?_⟩
 ·show (setsV x.1.length).length<=big
  rw [sets_len]
  have:(2:Nat)^x.1.length<=2^8:=Nat.pow_le_pow_right (by decide) h.n8
  simp only [big];omega
 ·show (setsV x.1.length).length<=big
  rw [sets_len]
  have:(2:Nat)^x.1.length<=2^8:=Nat.pow_le_pow_right (by decide) h.n8
  simp only [big];omega
 ·show worstV (fun s=>sumV s x.1 - stockV (newV x.2) s) (setsV x.1.length)=worstV (lacksV x.1 x.2) (setsV x.1.length)
  exact worst_congr _ _ fun s _=>by rw [stock_have hp,lacksV]
theorem v15 (x:(List Int) × List Pile) (h:k15.pre x):V15 x:=⟨h,rfl⟩
structure BoxIs (need:List Int) (l:List Pile):Prop where
 n1:1<=need.length
 n8:need.length<=8
 l8:l.length<=8
 nd:∀ n∈need,0<=n∧n<=48
 pile:∀ p∈l,(0<=p.1∧p.1<=allV need.length)∧amount p.2
 some:∃ n∈need,0<n
theorem max_mem:∀ (l:List Int) (a:Int),l.foldl max a=a∨l.foldl max a∈l
 | [],a=>.inl rfl
 | b::l,a=>by
  rw [List.foldl_cons]
  rcases max_mem l (max a b) with h | h
  ·rw [h]
   rcases Int.le_total a b with hl | hl
   ·right;rw [Int.max_eq_right hl];exact List.mem_cons_self
   ·left;exact Int.max_eq_left hl
  ·exact .inr (List.mem_cons_of_mem _ h)
theorem max_ge:∀ (l:List Int) (a:Int),a<=l.foldl max a∧∀ b∈l,b<=l.foldl max a
 | [],a=>⟨Int.le_refl _,(fun _ h=>by cases h)⟩
 | c::l,a=>by
  have:=max_ge l (max a c)
  rw [List.foldl_cons]
  refine ⟨by omega,fun b hb=>?_⟩
  rcases List.mem_cons.1 hb with rfl | hb
  ·omega
  ·exact this.2 b hb
theorem maxV_pos {l:List Int}:0<maxV l↔∃ n∈l,0<n:=by
 cases l with
 | nil=>simp [maxV]
 | cons a l =>
  rw [maxV]
  constructor
  ·intro h
   rcases max_mem l a with e | e
   ·exact ⟨a,List.mem_cons_self,by omega⟩
   ·exact ⟨_,List.mem_cons_of_mem _ e,h⟩
  ·rintro ⟨n,hn,h⟩
   have:=max_ge l a
   rcases List.mem_cons.1 hn with rfl | hn
   ·omega
   ·have:=this.2 n hn;omega
theorem box_iff {need:List Int} {l:List Pile}:boxB need l=true↔BoxIs need l:=by
 simp only [boxB,Bool.and_eq_true,decide_eq_true_eq,List.all_eq_true,inB_iff,needB,pileB,maxV_pos]
 constructor
 ·rintro ⟨⟨⟨⟨⟨h1,h2⟩,h3⟩,h4⟩,h5⟩,h6⟩
  exact ⟨by omega,by omega,by omega,h4,fun p hp=>h5 p hp,h6⟩
 ·intro h
  exact ⟨⟨⟨⟨⟨by have:=h.n1;omega,by have:=h.n8;omega⟩,by have:=h.l8;omega⟩,h.nd⟩,fun p hp=>h.pile p hp⟩,h.some⟩
theorem box_small {n:Nat} (hn:n<=8) {s:Int} (h:0<=s∧s<=allV n):smallSet s:=by
 refine under_small hn ⟨h.1,?_⟩
 have:=h.2
 simp only [allV] at this
 omega
theorem BoxIs.small {need:List Int} {l:List Pile} (h:BoxIs need l):∀ p∈l,smallSet p.1∧amount p.2:=fun p hp=>⟨box_small h.n8 (h.pile p hp).1,(h.pile p hp).2⟩
theorem times_len (l:List Int) (n:Int):(timesV l n).length=l.length:=by simp [timesV]
theorem times_bd {need:List Int} {n:Int} (h:∀ a∈need,0<=a∧a<=48) (h0:0<=n) (h1:n<=8388609):∀ a∈timesV need n,0<=a∧a<=48*8388609:=by
 intro a ha
 obtain ⟨b,hb,rfl⟩:=List.mem_map.1 ha
 exact ⟨Int.mul_nonneg (h b hb).1 h0,Int.mul_le_mul (h b hb).2 h1 h0 (by decide)⟩
theorem BoxIs.ok {need:List Int} {l:List Pile} (h:BoxIs need l) {n:Int} (h0:0<=n) (h1:n<=8388609):BoxOk (timesV need n) l :=
 ⟨by rw [times_len];exact h.n8,h.l8,fun a ha=>by have:=times_bd h.nd h0 h1 a ha;simp only [most40];omega,h.small⟩
theorem srch_spec {f:Int->Bool}:∀ (n:Nat) (i j:Int),i<=j->j - i<=n->(srch f n i j=i∨f (srch f n i j - 1)=false)∧(srch f n i j=j∨f (srch f n i j)=true)
 | 0,i,j,h,hn=>⟨.inl rfl,.inl (by show i=j;omega)⟩
 | n+1,i,j,h,hn=>by
  rw [srch]
  cases hd:decide (i<j) with
  | false=>have hd:=of_decide_eq_false hd;exact ⟨.inl rfl,.inl (by show i=j;omega)⟩
  | true =>
   have hl:=of_decide_eq_true hd
   have e:Int.fdiv (i+j) 2=(i+j) / 2:=Int.fdiv_eq_ediv_of_nonneg _ (by decide)
   rw [cond_true,e]
   cases hf:f ((i+j) / 2) with
   | true =>
    rw [cond_true]
    obtain ⟨h1,h2⟩:=srch_spec (f:=f) n i ((i+j) / 2) (by omega) (by omega)
    refine ⟨h1,?_⟩
    rcases h2 with h2 | h2
    ·right;rw [h2];exact hf
    ·exact .inr h2
   | false =>
    rw [cond_false]
    obtain ⟨h1,h2⟩:=srch_spec (f:=f) n ((i+j) / 2+1) j (by omega) (by omega)
    refine ⟨?_,h2⟩
    rcases h1 with h1 | h1
    ·right;rw [h1,Int.add_sub_cancel];exact hf
    ·exact .inr h1
theorem great_spec {n:Int} (h:0<=n) (p:Int->Bool):(0<=greatV n p∧greatV n p<=n)∧(greatV n p=0∨p (greatV n p)=true)∧(greatV n p=n∨p (greatV n p+1)=false):=by
 have h1:=srch_bd (f:=fun k=>!p (k+1)) n.toNat 0 n h
 obtain ⟨h2,h3⟩:=srch_spec (f:=fun k=>!p (k+1)) n.toNat 0 n h (by omega)
 refine ⟨h1,h2.imp_right fun h=>?_,h3.imp_right fun h=>?_⟩
 ·have h:=not_iff.2.1 h
  rw [Int.sub_add_cancel] at h
  exact h
 ·exact not_iff.1.1 h
theorem v13 (x:(List Int) × (List Pile) × Int) (_:k13.pre x):V13 x:=by
 refine ⟨trivial,fun h=>?_,fun h=>⟨trivial,fun h2=>?_,fun h2=>?_⟩⟩
 ·have h:boxB x.1 x.2.1=false:=not_iff.1.1 h
  show (1:Int)=zay x
  rw [zay,h];rfl
 ·have h:boxB x.1 x.2.1=true:=not_iff.2.1 h
  have h2:inB x.2.2 0 topN=false:=not_iff.1.1 h2
  show (2:Int)=zay x
  rw [zay,h,h2];rfl
 ·have h:boxB x.1 x.2.1=true:=not_iff.2.1 h
  have h2:inB x.2.2 0 topN=true:=not_iff.2.1 h2
  show (0:Int)=zay x
  rw [zay,h,h2];rfl
theorem check_cases (x:(List Int) × (List Pile) × Int):(zay x=0∧BoxIs x.1 x.2.1∧0<=x.2.2∧x.2.2<=topN)∨(zay x=1∧boxB x.1 x.2.1=false)∨(zay x=2∧boxB x.1 x.2.1=true∧inB x.2.2 0 topN=false):=by
 cases h:boxB x.1 x.2.1 with
 | false=>right;left;exact ⟨by rw [zay,h];rfl,rfl⟩
 | true =>
  cases h2:inB x.2.2 0 topN with
  | false=>right;right;exact ⟨by rw [zay,h,h2];rfl,rfl,rfl⟩
  | true=>left;exact ⟨by rw [zay,h,h2];rfl,box_iff.1 h,inB_iff.1 h2⟩
theorem check_ok {x:(List Int) × (List Pile) × Int} (h:zay x=0):BoxIs x.1 x.2.1∧0<=x.2.2∧x.2.2<=topN:=by
 rcases check_cases x with ⟨_,h1⟩ | ⟨h1,_⟩ | ⟨h1,_⟩
 ·exact h1
 ·rw [h] at h1;cases h1
 ·rw [h] at h1;cases h1
theorem mem_set {α:Type} {P:α->Prop} {l:List α} (h:∀ a∈l,P a) (i:Nat) {b:α} (hb:P b):∀ a∈l.set i b,P a:=by
 intro a ha
 rcases List.mem_or_eq_of_mem_set ha with h1 | h1
 ·exact h a h1
 ·rw [h1];exact hb
theorem getD_set_eq {α:Type} (l:List α) (d b:α) (i:Nat) (h:i<l.length):(l.set i b).getD i d=b:=by
 simp [List.getD,h]
theorem v18 (x:Int × (List Int) × Int × List Pile) (h:k18.pre x):V18 x:=by
 obtain ⟨hb,⟨k0,k1⟩,hr,n0,n1⟩:BoxOk x.2.1 x.2.2.2∧(0<=x.2.2.1∧x.2.2.1<(x.2.1.length:Int))∧1<=x.2.2.2.length∧0<=x.1∧x.1<=(x.2.2.2.getD 0 noP).2:=h
 have hm:=hb.pile _ (zbi x.2.2.2 noP 0 (by omega))
 have ha:=hm.2
 simp only [amount,topN] at ha
 have hz:(0:Int)<((zab x.2.2.2).length:Int):=by show (0:Int)<(x.2.2.2.length:Int);omega
 refine ⟨by show x.2.1.length<=1000;have:=hb.n8;omega,⟨k0,k1⟩,by show x.2.2.2.length<=big;have:=hb.l8;simp only [big];omega,⟨Int.le_refl _,hz⟩,?_,⟨Int.le_refl _,hz⟩,?_,rfl⟩
 ·show Z.in64 ((x.2.2.2.getD 0 noP).2 - x.1)
  simp only [Z.in64];omega
 ·show BoxOk (x.2.1.set x.2.2.1.toNat 0) (x.2.2.2.set 0 ((x.2.2.2.getD 0 noP).1,(x.2.2.2.getD 0 noP).2 - x.1))
  exact ⟨by rw [List.length_set];exact hb.n8,by rw [List.length_set];exact hb.l8,mem_set hb.need _ ⟨by decide,by decide⟩,mem_set hb.pile _ ⟨hm.1,by simp only [amount,topN];omega⟩⟩
theorem off_has {s k:Int} {j:Nat} (h:hasB (offS s k) (j:Nat)=true):hasB s (j:Nat)=true:=by
 simp only [hasB,offS,Int.toNat_natCast,Nat.testBit_xor,Nat.testBit_and] at h ⊢
 cases hs:s.toNat.testBit j with
 | true=>rfl
 | false=>rw [hs] at h;simp at h
theorem off_small {s k:Int} (h:smallSet s):smallSet (offS s k):=by
 have h1:s.toNat<2^8:=by have:=h.1;have:=h.2;omega
 have h2:=Nat.xor_lt_two_pow h1 (Nat.lt_of_le_of_lt (Nat.and_le_left (n:=s.toNat) (m:=(1*2^k.toNat:Int).toNat)) h1)
 refine ⟨Int.natCast_nonneg _,?_⟩
 simp only [offS]
 omega
structure FillOk (n:Nat) (own:Int) (s:FillS):Prop where
 d8:s.1.length=8
 dr:∀ r∈s.1,r.length=8
 ln:s.2.1.length=n
 lb:∀ a∈s.2.1,0<=a∧a<=most40
 r1:1<=s.2.2.length
 r8:s.2.2.length<=8
 rp:∀ p∈s.2.2,smallSet p.1∧amount p.2
 hs:∀ k:Nat,hasB (s.2.2.getD 0 noP).1 (k:Nat)=true->hasB own (k:Nat)=true
def SoldOk (l:List Pile) (g:List (List Int)):Prop:=∀ j k:Nat,getG g (j:Nat) (k:Nat)≠0->hasB (l.getD j noP).1 (k:Nat)=true
section
variable {n:Nat} {own:Int} {s:FillS}
theorem FillOk.off (h:FillOk n own s) (k:Int):(offP' k s.2.2).length=s.2.2.length∧(∀ p∈offP' k s.2.2,smallSet p.1∧amount p.2)∧(offP' k s.2.2).getD 0 noP=(offS (s.2.2.getD 0 noP).1 k,(s.2.2.getD 0 noP).2):=by
 have hm:=h.rp _ (zbi s.2.2 noP 0 (by have:=h.r1;omega))
 refine ⟨List.length_set ..,mem_set h.rp _ ⟨off_small hm.1,hm.2⟩,?_⟩
 exact getD_set_eq s.2.2 noP _ 0 (by have:=h.r1;omega)
end
section
variable {n:Nat} {own:Int} {s:FillS}
theorem FillOk.num (h:FillOk n own s) (hn:n<=8) {k:Nat} (hk:k<n):zcf (min ((offP' (k:Nat) s.2.2).getD 0 noP).2 (s.2.1.getD k 0),ownF s.2.1 (k:Nat) (offP' (k:Nat) s.2.2))∧0<=numF s.2.1 (k:Nat) (offP' (k:Nat) s.2.2)∧numF s.2.1 (k:Nat) (offP' (k:Nat) s.2.2)<=(s.2.2.getD 0 noP).2∧numF s.2.1 (k:Nat) (offP' (k:Nat) s.2.2)<=s.2.1.getD k 0:=by
 obtain ⟨h1,h2,h3⟩:=h.off (k:Nat)
 have hm:=(h.rp _ (zbi s.2.2 noP 0 (by have:=h.r1;omega))).2
 simp only [amount,topN] at hm
 have hl:=h.lb _ (zbi s.2.1 0 k (by rw [h.ln];exact hk))
 have h32:((offP' (k:Nat) s.2.2).getD 0 noP).2=(s.2.2.getD 0 noP).2:=by rw [h3]
 have hmin:0<=min ((offP' (k:Nat) s.2.2).getD 0 noP).2 (s.2.1.getD k 0):=by rw [h32];omega
 have hg:=(great_spec (n:=min ((offP' (k:Nat) s.2.2).getD 0 noP).2 (s.2.1.getD k 0)) hmin (ownF s.2.1 (k:Nat) (offP' (k:Nat) s.2.2)).val).1
 have e:numF s.2.1 (k:Nat) (offP' (k:Nat) s.2.2)=greatV (min ((offP' (k:Nat) s.2.2).getD 0 noP).2 (s.2.1.getD k 0)) (ownF s.2.1 (k:Nat) (offP' (k:Nat) s.2.2)).val:=rfl
 rw [<-e] at hg
 refine ⟨⟨⟨hmin,?_⟩,fun i i1 i2=>⟨⟨by rw [h.ln];exact hn,by rw [h1];exact h.r8,h.lb,h2⟩,⟨by show (0:Int)<=((k:Nat):Int);omega,by show ((k:Nat):Int)<(s.2.1.length:Int);rw [h.ln];omega⟩,by show 1<=(offP' (k:Nat) s.2.2).length;rw [h1];exact h.r1,by show (0:Int)<=i;omega,?_⟩⟩,hg.1,?_,?_⟩
 ·show min ((offP' (k:Nat) s.2.2).getD 0 noP).2 (s.2.1.getD k 0)<=most40
  rw [h32];simp only [most40] at *;omega
 ·have i2:i<=min ((offP' (k:Nat) s.2.2).getD 0 noP).2 (s.2.1.getD k 0):=i2
  show i<=((offP' (k:Nat) s.2.2).getD 0 noP).2
  omega
 ·rw [h32] at hg;omega
 ·rw [h32] at hg;omega
end
section
variable {n:Nat} {own:Int} {s:FillS}
theorem FillOk.step (h:FillOk n own s) (hn:n<=8) {i k:Nat} (hi:i<8) (hk:k<n):FillOk n own (fillStep (i:Nat) (k:Nat) s):=by
 unfold fillStep
 cases hh:hasB (s.2.2.getD (Int.toNat 0) noP).1 (k:Nat) with
 | false=>exact h
 | true =>
  obtain ⟨h1,h2,h3⟩:=h.off (k:Nat)
  obtain ⟨_,g0,g1,g2⟩:=h.num hn hk
  have hl:=h.lb _ (zbi s.2.1 0 k (by rw [h.ln];exact hk))
  have hm:=(h.rp _ (zbi s.2.2 noP 0 (by have:=h.r1;omega)))
  have hm2:=hm.2
  simp only [amount,topN] at hm2
  simp only [cond_true,fillTo]
  generalize hN:numF s.2.1 (k:Nat) (offP' (k:Nat) s.2.2)=N at g0 g1 g2
  obtain ⟨e1,e2⟩:=setG_dims h.d8 h.dr hi (k:=k) N
  refine ⟨e1,e2,?_,?_,?_,?_,?_,?_⟩
  ·show (s.2.1.set _ _).length=n
   rw [List.length_set];exact h.ln
  ·refine mem_set h.lb _ ?_
   show 0<=s.2.1.getD k 0 - N∧s.2.1.getD k 0 - N<=most40
   omega
  ·show 1<=((offP' (k:Nat) s.2.2).set _ _).length
   rw [List.length_set,h1];exact h.r1
  ·show ((offP' (k:Nat) s.2.2).set _ _).length<=8
   rw [List.length_set,h1];exact h.r8
  ·refine mem_set h2 _ ?_
   show smallSet ((offP' (k:Nat) s.2.2).getD 0 noP).1∧amount (((offP' (k:Nat) s.2.2).getD 0 noP).2 - N)
   rw [h3]
   refine ⟨off_small hm.1,?_⟩
   simp only [amount,topN];omega
  ·intro j hj
   have e:(takeP N (offP' (k:Nat) s.2.2)).getD 0 noP=(((offP' (k:Nat) s.2.2).getD 0 noP).1,((offP' (k:Nat) s.2.2).getD 0 noP).2 - N):=getD_set_eq _ noP _ 0 (by rw [h1];have:=h.r1;omega)
   have hj:hasB ((takeP N (offP' (k:Nat) s.2.2)).getD 0 noP).1 (j:Nat)=true:=hj
   rw [e,h3] at hj
   exact h.hs j (off_has hj)
end
section
variable {n:Nat} {own:Int} {s:FillS}
theorem FillOk.sold {l:List Pile} (h:FillOk n own s) (hn:n<=8) {i k:Nat} (hi:i<8) (hk:k<n) (ho:own=(l.getD i noP).1) (hS:SoldOk l s.1):SoldOk l (fillStep (i:Nat) (k:Nat) s).1:=by
 unfold fillStep
 cases hh:hasB (s.2.2.getD (Int.toNat 0) noP).1 (k:Nat) with
 | false=>exact hS
 | true =>
  intro j m hp
  have hp:getG (setG s.1 (i:Nat) (k:Nat) (numF s.2.1 (k:Nat) (offP' (k:Nat) s.2.2))) (j:Nat) (m:Nat)≠0:=hp
  rw [getG_set h.d8 h.dr hi (by omega)] at hp
  by_cases e:j=i∧m=k
  ·obtain ⟨rfl,rfl⟩:=e
   rw [<-ho]
   exact h.hs m hh
  ·rw [if_neg e] at hp
   exact hS j m hp
end
section
variable {n:Nat} {own:Int} {s:FillS}
theorem row_succ (i:Int) (k:Nat) (s:FillS):fillRow i (k+1) s=fillStep i (k:Nat) (fillRow i k s):=by
 rw [fillRow,List.range_succ,List.foldl_append];rfl
end
section
variable {n:Nat} {own:Int} {s:FillS}
theorem FillOk.row {l:List Pile} (h:FillOk n own s) (hn:n<=8) {i:Nat} (hi:i<8) (ho:own=(l.getD i noP).1) (hS:SoldOk l s.1):∀ k,k<=n->FillOk n own (fillRow (i:Nat) k s)∧SoldOk l (fillRow (i:Nat) k s).1
 | 0,_=>⟨h,hS⟩
 | k+1,hk=>by
  obtain ⟨h1,h2⟩:=FillOk.row h hn hi ho hS k (by omega)
  rw [row_succ]
  exact ⟨h1.step hn hi (by omega),h1.sold hn hi (by omega) ho h2⟩
end
theorem pack_succ (need:List Int) (l:List Pile) (i:Nat) (s:(List (List Int)) × List Int):packV need l (i+1) s=((fillRow (i:Nat) need.length ((packV need l i s).1,(packV need l i s).2,l.drop i)).1,(fillRow (i:Nat) need.length ((packV need l i s).1,(packV need l i s).2,l.drop i)).2.1):=by
 rw [packV,List.range_succ,List.foldl_append];rfl
structure PackOk (n:Nat) (l:List Pile) (s:(List (List Int)) × List Int):Prop where
 d8:s.1.length=8
 dr:∀ r∈s.1,r.length=8
 ln:s.2.length=n
 lb:∀ a∈s.2,0<=a∧a<=most40
 sold:SoldOk l s.1
theorem PackOk.fill {n:Nat} {l:List Pile} {s:(List (List Int)) × List Int} (h:PackOk n l s) (hl:l.length<=8) (hp:∀ p∈l,smallSet p.1∧amount p.2) {i:Nat} (hi:i<l.length):FillOk n (l.getD i noP).1 (s.1,s.2,l.drop i):=by
 refine ⟨h.d8,h.dr,h.ln,h.lb,?_,?_,fun p hm=>hp p (List.mem_of_mem_drop hm),fun k hk=>?_⟩
 ·show 1<=(l.drop i).length
  rw [List.length_drop];omega
 ·show (l.drop i).length<=8
  rw [List.length_drop];omega
 ·have e:(l.drop i).getD 0 noP=l.getD i noP:=by simp [List.getD]
  have hk:hasB ((l.drop i).getD 0 noP).1 (k:Nat)=true:=hk
  rw [e] at hk;exact hk
theorem pack_ok {need:List Int} {l:List Pile} (hn:need.length<=8) (hl:l.length<=8) (hp:∀ p∈l,smallSet p.1∧amount p.2) {s:(List (List Int)) × List Int} (h:PackOk need.length l s):∀ i,i<=l.length->PackOk need.length l (packV need l i s)
 | 0,_=>h
 | i+1,hi=>by
  have h1:=pack_ok hn hl hp h i (by omega)
  obtain ⟨h2,h3⟩:=(h1.fill hl hp (i:=i) (by omega)).row hn (i:=i) (by omega) rfl h1.sold need.length (Nat.le_refl _)
  rw [pack_succ]
  exact ⟨h2.d8,h2.dr,h2.ln,h2.lb,h3⟩
theorem sold0u_ok (l:List Pile):sold0.length=8∧(∀ r∈sold0,r.length=8)∧SoldOk l sold0:=by
 refine ⟨rfl,by decide,fun j k h=>?_⟩
 have e:getG sold0 (j:Nat) (k:Nat)=0:=by
  simp only [getG,Int.toNat_natCast]
  have hz:∀ m:Nat,zRow.getD m 0=0:=by
   intro m
   by_cases hm:m<8
   ·simp [List.getD,hm]
   ·simp [List.getD,hm]
  have h1:sold0.getD j zRow=zRow:=by
   by_cases hj:j<8
   ·simp [List.getD,hj]
   ·simp [List.getD,hj]
  rw [h1]
  exact hz k
 exact absurd e h
theorem fill_start {need:List Int} {l:List Pile} (hb:BoxIs need l) {n:Int} (h0:0<=n) (h1:n<=8388609):PackOk need.length l (sold0,timesV need n):=by
 obtain ⟨e1,e2,e3⟩:=sold0u_ok l
 exact ⟨e1,e2,times_len _ _,fun a ha=>by have:=times_bd hb.nd h0 h1 a ha;simp only [most40];omega,e3⟩
theorem v6 (x:(List Int) × (List Pile) × Int) (_:k6.pre x):V6 x:=by
 refine ⟨trivial,fun h=>?_,fun h=>?_⟩
 ·have h:(zay x==0)=false:=not_iff.1.1 h
  show ([],zay x)=zas x
  rw [zas,h];rfl
 have hc:(zay x==0)=true:=not_iff.2.1 h
 obtain ⟨hb,h0,h1⟩:=check_ok (eq_of_beq hc)
 have h1':x.2.2<=8388609:=by simp only [topN] at h1;omega
 refine ⟨⟨hb.n8,hb.nd,h0,h1'⟩,hb.ok h0 h1',fun h=>?_,fun h=>?_⟩
 ·have h:canF (timesV x.1 x.2.2) x.2.1=false:=not_iff.1.1 h
  show ([],10)=zas x
  rw [zas,hc,h];rfl
 have hcan:canF (timesV x.1 x.2.2) x.2.1=true:=not_iff.2.1 h
 have hval:zas x=((List.range x.2.1.length).map fun i=>((fillAll x).getD i zRow).take x.1.length,0):=by rw [zas,hc,hcan];rfl
 have hst:=fill_start hb h0 h1'
 have hpk:=pack_ok hb.n8 hb.l8 hb.small hst
 have h8:=hb.n8
 have l8:=hb.l8
 refine ⟨fun s=>∃ i:Nat,s.1=(i:Int)∧i<=x.2.1.length∧s.2=packV x.1 x.2.1 i (sold0,timesV x.1 x.2.2),fun s=>((x.2.1.length:Int) - s.1).toNat,⟨0,rfl,Nat.zero_le _,rfl⟩,?_⟩
 rintro ⟨i',sl⟩ ⟨i,rfl,hi,hs⟩
 simp only at hs ⊢
 subst hs
 have hp:=hpk i hi
 refine ⟨fun hd=>?_,fun hd=>?_⟩
 ·have hd:(i:Int)<(x.2.1.length:Int):=of_decide_eq_true hd
  have hil:i<x.2.1.length:=by omega
  have hF:=hp.fill l8 hb.small hil
  have e0:(x.2.1.drop (Int.toNat (i:Int)))=x.2.1.drop i:=rfl
  have hlen:((x.2.1.drop i).length:Int)=(x.2.1.length:Int) - i:=by rw [List.length_drop];omega
  refine ⟨⟨by omega,by omega⟩,?_,⟨Int.le_refl _,?_⟩,?_⟩
  ·show (x.2.1.drop i).length<=big
   rw [List.length_drop];simp only [big];omega
  ·show (0:Int)<((x.2.1.drop i).length:Int)
   omega
  generalize hS:packV x.1 x.2.1 i (sold0,timesV x.1 x.2.2)=S at hp hF
  have hrow:=hF.row h8 (i:=i) (by omega) rfl hp.sold
  refine ⟨fun s=>∃ k:Nat,s.1=(k:Int)∧k<=x.1.length∧s.2=fillRow (i:Nat) k (S.1,S.2,x.2.1.drop i),fun s=>((x.1.length:Int) - s.1).toNat,⟨0,rfl,Nat.zero_le _,rfl⟩,?_⟩
  rintro ⟨k',st⟩ ⟨k,rfl,hk,hs⟩
  simp only at hs ⊢
  have hfk:=(hrow k hk).1
  rw [<-hs] at hfk
  refine ⟨fun hd2=>?_,fun hd2=>?_⟩
  ·have hd2:(k:Int)<(x.1.length:Int):=of_decide_eq_true hd2
   have hkl:k<x.1.length:=by omega
   have hm:=hfk.rp _ (zbi st.2.2 noP 0 (by have:=hfk.r1;omega))
   have hnext:fillRow (i:Nat) (k+1) (S.1,S.2,x.2.1.drop i)=fillStep (i:Nat) (k:Nat) st:=by rw [row_succ,hs]
   refine ⟨⟨hm.1.1,by show (0:Int)<=(k:Nat);omega,by show ((k:Nat):Int)<64;omega⟩,fun hh=>⟨by simp only [Z.in64];omega,by first | rfl | trivial,by first | rfl | trivial,⟨k+1,by simp,by omega,?_⟩,?_⟩,fun hh=>?_⟩
   ·have hh:hasB (st.2.2.getD (Int.toNat 0) noP).1 (k:Nat)=false:=not_iff.1.1 hh
    rw [hnext,fillStep,hh];rfl
   ·show ((x.1.length:Int) - (k+1)).toNat<((x.1.length:Int) - k).toNat
    omega
   ·have hh:hasB (st.2.2.getD (Int.toNat 0) noP).1 (k:Nat)=true:=not_iff.2.1 hh
    obtain ⟨g0,g1,g2,g3⟩:=hfk.num h8 hkl
    obtain ⟨o1,o2,o3⟩:=hfk.off (k:Nat)
    have hl:=hfk.lb _ (zbi st.2.1 0 k (by rw [hfk.ln];exact hkl))
    have hm2:=hm.2
    have hkL:((0:Int)<=(k:Int))∧(k:Int)<(st.2.1.length:Int):=⟨by omega,by rw [hfk.ln];exact hd2⟩
    simp only [amount,topN,most40] at hm2 hl
    refine ⟨shl_ok (by omega) (by omega),⟨hm.1.1,pow_nn _⟩,hkL,g0,⟨by omega,by omega⟩,⟨by omega,by omega⟩,hkL,?_,hkL,?_,by simp only [Z.in64];omega,by first | rfl | trivial,by first | rfl | trivial,⟨k+1,by simp,by omega,?_⟩,?_⟩
    ·show Z.in64 (st.2.1.getD k 0 - numF st.2.1 (k:Nat) (offP' (k:Nat) st.2.2))
     simp only [Z.in64];omega
    ·show Z.in64 (((offP' (k:Nat) st.2.2).getD 0 noP).2 - numF st.2.1 (k:Nat) (offP' (k:Nat) st.2.2))
     rw [o3]
     simp only [Z.in64];omega
    ·rw [hnext,fillStep,hh];rfl
    ·show ((x.1.length:Int) - (k+1)).toNat<((x.1.length:Int) - k).toNat
     omega
  ·have hd2:¬ (k:Int)<(x.1.length:Int):=of_decide_eq_false hd2
   have hkn:k=x.1.length:=by omega
   subst hkn
   refine ⟨by simp only [Z.in64];omega,by first | rfl | trivial,⟨i+1,by simp,by omega,?_⟩,?_⟩
   ·rw [pack_succ,hS,<-hs]
   ·show ((x.2.1.length:Int) - (i+1)).toNat<((x.2.1.length:Int) - i).toNat
    omega
 ·have hd:¬ (i:Int)<(x.2.1.length:Int):=of_decide_eq_false hd
  have hin:i=x.2.1.length:=by omega
  subst hin
  have hall:(packV x.1 x.2.1 x.2.1.length (sold0,timesV x.1 x.2.2)).1=fillAll x:=rfl
  have hd8:=hp.d8
  have hdr:=hp.dr
  rw [hall] at hd8 hdr
  obtain ⟨F,hF⟩:∃ F:Nat->List Int,F=fun i=>((fillAll x).getD i zRow).take x.1.length:=⟨_,rfl⟩
  refine ⟨⟨⟨by omega,Int.le_refl _⟩,by simp only [Z.roomy];omega⟩,?_⟩
  refine ⟨fun s=>∃ m:Nat,s.1=(m:Int)∧m<=x.2.1.length∧s.2=(List.range m).map F++List.replicate (x.2.1.length - m) ([]:List Int),fun s=>((x.2.1.length:Int) - s.1).toNat,⟨0,rfl,Nat.zero_le _,rfl⟩,?_⟩
  rintro ⟨m',o⟩ ⟨m,rfl,hm,ho⟩
  simp only at ho ⊢
  have hol:o.length=x.2.1.length:=by rw [ho,List.length_append,List.length_map,List.length_range,List.length_replicate];omega
  have hrl:((List.replicate (Int.toNat (x.2.1.length:Int)) ([]:List Int)).length:Int)=(x.2.1.length:Int):=by simp
  refine ⟨fun hd2=>?_,fun hd2=>?_⟩
  ·have hd2:=of_decide_eq_true hd2
   rw [hrl] at hd2
   have e1:(packV x.1 x.2.1 x.2.1.length (sold0,timesV x.1 x.2.2)).1.getD m zRow=(fillAll x).getD m zRow:=rfl
   have hrow:((fillAll x).getD m zRow).length=8:=hdr _ (zbi _ _ m (by omega))
   refine ⟨⟨by omega,by omega⟩,⟨by omega,by omega⟩,?_,⟨by omega,by omega⟩,by simp only [Z.in64];omega,by first | rfl | trivial,by first | rfl | trivial,by first | rfl | trivial,⟨m+1,by simp,by omega,?_⟩,?_⟩
   ·show (((fillAll x).getD m zRow).take x.1.length).length<=1000
    rw [List.length_take];omega
   ·show o.set m (((fillAll x).getD m zRow).take x.1.length)=_
    rw [ho,List.set_append_right _ _ (by simp),List.length_map,List.length_range,Nat.sub_self,List.range_succ,List.map_append,List.append_assoc]
    obtain ⟨q,hq⟩:∃ q,x.2.1.length - m=q+1:=⟨x.2.1.length - m - 1,by omega⟩
    rw [hq,List.replicate_succ,show x.2.1.length - (m+1)=q from by omega,hF]
    rfl
   ·show ((x.2.1.length:Int) - (m+1)).toNat<((x.2.1.length:Int) - m).toNat
    omega
  ·have hd2:=of_decide_eq_false hd2
   rw [hrl] at hd2
   have hmn:m=x.2.1.length:=by omega
   subst hmn
   show (o,0)=zas x
   rw [hval,ho,Nat.sub_self,hF]
   simp
theorem v10 (x:Int × Int × Int) (_:k10.pre x):V10 x:=rfl
theorem pow_le8 {n:Int} (h0:0<=n) (h:n<=8):(1:Int)<=2^n.toNat∧(2:Int)^n.toNat<=256:=by
 have h1:(2:Nat)^n.toNat<=2^8:=Nat.pow_le_pow_right (by decide) (by omega)
 have h2:=Nat.two_pow_pos n.toNat
 rw [pow_int]
 generalize 2^n.toNat=m at *
 omega
theorem v11 (x:Int) (h:k11.pre x):V11 x:=by
 obtain ⟨h0,h8⟩:0<=x∧x<=8:=h
 refine ⟨fun s=>(0<=s.2∧s.2<=x)∧s.1=2^s.2.toNat,fun s=>(x - s.2).toNat,⟨⟨Int.le_refl _,h0⟩,rfl⟩,?_⟩
 rintro ⟨a,i⟩ ⟨⟨i0,i1⟩,e⟩
 simp only at i0 i1 e ⊢
 refine ⟨fun hd=>?_,fun hd=>?_⟩
 ·have hd:=of_decide_eq_true hd
  have hp:=pow_le8 i0 (by omega:i<=8)
  rw [<-e] at hp
  refine ⟨by simp only [Z.in64];omega,by simp only [Z.in64];omega,⟨⟨by omega,by omega⟩,?_⟩,by omega⟩
  have e1:(i+1).toNat=i.toNat+1:=by omega
  rw [e1,Int.pow_succ,e,Int.mul_comm]
 ·have hd:=of_decide_eq_false hd
  have:i=x:=by omega
  subst this
  exact e
theorem sum_bd48:∀ (l:List Int),(∀ a∈l,0<=a∧a<=48)->0<=l.sum∧l.sum<=48*(l.length:Int)∧(0<l.sum↔∃ n∈l,0<n)
 | [],_=>by simp
 | a::l,h=>by
  obtain ⟨h1,h2,h3⟩:=sum_bd48 l fun b hb=>h b (List.mem_cons_of_mem _ hb)
  have ha:=h a List.mem_cons_self
  simp only [List.sum_cons,List.length_cons]
  refine ⟨by omega,by omega,?_⟩
  constructor
  ·intro hp
   by_cases h0:0<a
   ·exact ⟨a,List.mem_cons_self,h0⟩
   ·obtain ⟨n,hn,g⟩:=h3.1 (by omega)
    exact ⟨n,List.mem_cons_of_mem _ hn,g⟩
  ·rintro ⟨n,hn,g⟩
   rcases List.mem_cons.1 hn with rfl | hn
   ·omega
   ·have:=h3.2 ⟨n,hn,g⟩;omega
theorem box_false {need:List Int} {l:List Pile} (h:BoxIs need l->False):false=boxB need l:=by
 cases e:boxB need l with
 | false=>rfl
 | true=>exact (h (box_iff.1 e)).elim
theorem v4 (x:(List Int) × List Pile) (_:k4.pre x):V4 x:=by
 refine ⟨trivial,fun hg=>?_,fun hg=>?_⟩
 ·refine box_false fun h=>?_
  have h1:=h.n1
  have h2:=h.n8
  have h3:=h.l8
  rw [Bool.or_eq_true] at hg
  rcases hg with hg | hg
  ·have hg:inB (x.1.length:Int) 1 8=false:=not_iff.1.1 hg
   rw [inB_iff.2 ⟨by omega,by omega⟩] at hg;cases hg
  ·have:=of_decide_eq_true hg;omega
 rw [Bool.or_eq_false_iff] at hg
 have hn:=inB_iff.1 (show inB (x.1.length:Int) 1 8=true from not_iff.2.1 hg.1)
 have hl:=of_decide_eq_false hg.2
 clear hg
 refine ⟨fun s=>(0<=s.2∧s.2<=(x.1.length:Int))∧s.1=(x.1.take s.2.toNat).sum∧∀ a∈x.1.take s.2.toNat,0<=a∧a<=48,fun s=>((x.1.length:Int) - s.2).toNat,⟨⟨by simp,by simp⟩,rfl,(fun a h=>by cases h)⟩,?_⟩
 rintro ⟨t,i⟩ ⟨⟨i0,i1⟩,e,hall⟩
 simp only at i0 i1 e hall ⊢
 have hb:=sum_bd48 _ hall
 rw [<-e] at hb
 have hlt:((x.1.take i.toNat).length:Int)<=8:=by rw [List.length_take];omega
 refine ⟨fun hd=>?_,fun hd=>?_⟩
 ·have hd:i<(x.1.length:Int):=of_decide_eq_true hd
  have hm:=zcv x.1 0 i i0 hd
  have et:=take_getD x.1 i i0 hd
  refine ⟨⟨i0,hd⟩,trivial,fun hh=>box_false fun h=>?_,fun hh=>?_⟩
  ·have hh:inB (x.1.getD i.toNat 0) 0 48=false:=not_iff.1.1 hh
   rw [inB_iff.2 (h.nd _ hm)] at hh;cases hh
  ·have hh:=inB_iff.1 (show inB (x.1.getD i.toNat 0) 0 48=true from not_iff.2.1 hh)
   refine ⟨⟨i0,hd⟩,by simp only [Z.in64];omega,by simp only [Z.in64];omega,⟨⟨by omega,by omega⟩,?_,?_⟩,by omega⟩
   ·rw [et,List.sum_append,e];simp
   ·intro a ha
    rw [et] at ha
    rcases List.mem_append.1 ha with ha | ha
    ·exact hall a ha
    ·rw [List.mem_singleton.1 ha];exact hh
 have hd:¬ i<(x.1.length:Int):=of_decide_eq_false hd
 rw [List.take_of_length_le (by omega)] at e hall
 have hb:=sum_bd48 _ hall
 rw [<-e] at hb
 have hpow:zbe (x.1.length:Int) - 1=allV x.1.length:=by
  show (2:Int)^(Int.toNat (x.1.length:Int)) - 1=_
  simp only [allV,Int.toNat_natCast]
 have hp8:=pow_le8 (n:=(x.1.length:Int)) (by omega) (by omega)
 rw [Int.toNat_natCast] at hp8
 simp only [hpow]
 refine ⟨fun s=>(0<=s∧s<=(x.2.length:Int))∧∀ p∈x.2.take s.toNat,(0<=p.1∧p.1<=allV x.1.length)∧amount p.2,fun s=>((x.2.length:Int) - s).toNat,⟨⟨by simp,by simp⟩,(fun a h=>by cases h)⟩,?_⟩
 rintro j ⟨⟨j0,j1⟩,hpil⟩
 refine ⟨fun hd2=>?_,fun hd2=>?_⟩
 ·have hd2:j<(x.2.length:Int):=of_decide_eq_true hd2
  have hm:=zcv x.2 (0,0) j j0 hd2
  refine ⟨⟨j0,hd2⟩,⟨by omega,hn.2⟩,by simp only [Z.in64,allV];omega,trivial,fun _=>⟨j0,hd2⟩,fun _=>trivial,fun hh=>box_false fun h=>?_,fun hh=>?_⟩
  ·have hq:=h.pile _ hm
   have h1:zbf ((x.2.getD j.toNat (0,0)).1,0,allV x.1.length)=true:=inB_iff.2 hq.1
   have h2:zbf ((x.2.getD j.toNat (0,0)).2,0,1048576)=true:=inB_iff.2 hq.2
   rw [h1,h2] at hh;cases hh
  ·rw [Bool.or_eq_false_iff] at hh
   have h1:=inB_iff.1 (show inB (x.2.getD j.toNat (0,0)).1 0 (allV x.1.length)=true from not_iff.2.1 hh.1)
   have h2:=inB_iff.1 (show inB (x.2.getD j.toNat (0,0)).2 0 1048576=true from not_iff.2.1 hh.2)
   refine ⟨by simp only [Z.in64];omega,⟨⟨by omega,by omega⟩,fun p hp=>?_⟩,by show ((x.2.length:Int) - (j+1)).toNat<((x.2.length:Int) - j).toNat;omega⟩
   have ej:(j+1).toNat=j.toNat+1:=by omega
   have hjl:j.toNat<x.2.length:=by omega
   rw [ej,List.take_succ_eq_append_getElem hjl] at hp
   rcases List.mem_append.1 hp with hp | hp
   ·exact hpil p hp
   ·have e1:x.2.getD j.toNat (0,0)=x.2[j.toNat]:=by simp [List.getD,hjl]
    rw [List.mem_singleton.1 hp,<-e1];exact ⟨h1,h2⟩
 ·have hd2:¬ j<(x.2.length:Int):=of_decide_eq_false hd2
  rw [List.take_of_length_le (by omega)] at hpil
  show decide (0<t)=boxB x.1 x.2
  refine bool_ext ?_
  rw [decide_eq_true_eq,box_iff]
  constructor
  ·intro h
   exact ⟨by omega,by omega,by omega,hall,hpil,hb.2.2.1 h⟩
  ·intro h
   exact hb.2.2.2 h.some
end Go.Td
