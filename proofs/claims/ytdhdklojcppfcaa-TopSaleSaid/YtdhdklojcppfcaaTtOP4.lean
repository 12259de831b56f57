/-
  Chapter 10: conditions of the flow's functions, proved.
-/
import Derived.Test.YtdhdklojcppfcaaTtOP3
import Derived.Test.YtdhdklojcppfcaaTtO4
set_option linter.all false
set_option maxRecDepth 100000
set_option maxHeartbeats 4000000
set_option linter.unusedVariables false
open Int renaming eq_ofNat_of_zero_le->ydF,sub_zero->ydN,toNat->yby,toNat_natCast->ydw
open List renaming range->yaf,replicate->yaa
namespace Go.Tt
open Go Go.Sx
theorem gg_bd {f:Flow} (h:FlowOk f) (i k:Nat):0<=gg f i k/\gg f i k<=topN:=by
 refine ⟨h.pos i k,?_⟩
 rcases Int.lt_or_le 0 (gg f i k) with hp | hp
 ·obtain ⟨h1,h2,_⟩:=h.op hp
  have h3:=h.row i h1
  have h4:gg f i k<=rowS f.2.1 ((i:Nat):Int) 8:=sumN_ge (fun j _=>h.pos i j) (by have:=h.n8;omega)
  have h5:=(h.mo.2.many _ (zan (mkt f.1).2.1 0 i h1)).2
  omega
 ·simp only [topN];omega
theorem znu {f:Flow} (h:FlowOk f) {k:Nat} (hk:k<NN f):amount ((mkt f.1).1.getD k 0):=h.mo.2.asked _ (zan _ 0 k hk)
theorem many_bd {f:Flow} (h:FlowOk f) {i:Nat} (hi:i<MM f):amount ((mkt f.1).2.1.getD i 0):=h.mo.2.many _ (zan _ 0 i hi)
theorem sumN_to (n:Int) (h0:0<=n) (f:Nat->Int):sumN (n+1).toNat f=sumN n.toNat f+f n.toNat:=by
 have:(n+1).toNat=n.toNat+1:=by omega
 rw [this,zaq]
theorem v161 (x:Flow × Int) (h:k161.pre x):V161 x:=by
 obtain ⟨f,i⟩:=x
 obtain ⟨hf,h1,h2⟩:FlowOk f/\0<=i/\i<(MM f:Int):=h
 obtain ⟨i,rfl⟩:=ydF h1
 have hi:i<MM f:=by omega
 have hM:=hf.m8
 have hmb:=many_bd hf hi
 refine ⟨hf.mo.1,⟨by omega,h2⟩,⟨by omega,by show ((i:Nat):Int)<8;omega⟩,fun s=>0<=s.2/\s.2<=8/\s.1=(mkt f.1).2.1.getD i 0 - sumN s.2.toNat (gg f i),fun s=>(8 - s.2).toNat,⟨by simp,by simp,?_⟩,?_⟩
 ·show (mkt f.1).2.1.getD _ 0=(mkt f.1).2.1.getD i 0 - 0
  rw [ydN];rfl
 ·rintro ⟨a,k⟩ ⟨k1,k2,k3⟩
  simp only at k1 k2 k3 ⊢
  refine ⟨fun hk=>?_,fun hk=>?_⟩
  ·have hk:=of_decide_eq_true hk
   have e:=sumN_to k k1 (gg f i)
   have hb:=gg_bd hf i k.toNat
   have hs:0<=sumN k.toNat (gg f i)/\sumN k.toNat (gg f i)<=8*topN:=by
    refine ⟨zbc fun j _=>hf.pos i j,?_⟩
    have:∀ n,n<=8->sumN n (gg f i)<=(n:Int)*topN:=by
     intro n
     induction n with
     | zero=>intro _;simp [zel]
     | succ n ih =>
      intro hn
      have:=ih (by omega)
      have:=(gg_bd hf i n).2
      rw [zaq]
      simp only [topN] at *
      omega
    have:=this k.toNat (by omega)
    simp only [topN] at this ⊢
    omega
   have eg:((f.2.1.getD (yby ((i:Nat):Int)) (yaa 8 0)).getD (yby k) 0)=gg f i k.toNat:=by
    show _=getG f.2.1 _ _
    simp only [getG,ydw]
   simp only [amount,topN] at hmb hb hs
   refine ⟨⟨k1,hk⟩,?_,by simp only [Z.in64];omega,⟨by show 0<=k+1;omega,by show k+1<=8;omega,?_⟩,?_⟩
   ·rw [eg];simp only [Z.in64];omega
   ·show a - _=_ - sumN (k+1).toNat (gg f i)
    rw [eg,e];omega
   ·show (8 - (k+1)).toNat<(8 - k).toNat
    omega
  ·have hk:=of_decide_eq_false hk
   have:k=8:=by omega
   subst this
   show a=leftV f (i:Nat)
   rw [k3]
   simp only [leftV,ydw]
   rfl
theorem v208 (x:Flow × Int) (h:k208.pre x):V208 x:=by
 obtain ⟨f,k⟩:=x
 obtain ⟨hf,h1,h2⟩:FlowOk f/\0<=k/\k<(NN f:Int):=h
 obtain ⟨k,rfl⟩:=ydF h1
 have hk:k<NN f:=by omega
 have hN:=hf.n8
 have hM:=hf.m8
 have hab:=znu hf hk
 refine ⟨hf.mo.1,⟨by omega,h2⟩,hf.mo.1,fun s=>0<=s.2/\s.2<=(MM f:Int)/\s.1=(mkt f.1).1.getD k 0 - sumN s.2.toNat (fun i=>gg f i k),fun s=>((MM f:Int) - s.2).toNat,⟨by simp,by show (0:Int)<=(MM f:Int);omega,?_⟩,?_⟩
 ·show (mkt f.1).1.getD _ 0=(mkt f.1).1.getD k 0 - 0
  rw [ydN];rfl
 ·rintro ⟨a,i⟩ ⟨i1,i2,i3⟩
  simp only at i1 i2 i3 ⊢
  refine ⟨fun hi=>?_,fun hi=>?_⟩
  ·have hi:i<(MM f:Int):=of_decide_eq_true hi
   have e:=sumN_to i i1 (fun i=>gg f i k)
   have hb:=gg_bd hf i.toNat k
   have hs:0<=sumN i.toNat (fun i=>gg f i k)/\sumN i.toNat (fun i=>gg f i k)<=8*topN:=by
    refine ⟨zbc fun j _=>hf.pos j k,?_⟩
    have:∀ n,n<=8->sumN n (fun i=>gg f i k)<=(n:Int)*topN:=by
     intro n
     induction n with
     | zero=>intro _;simp [zel]
     | succ n ih =>
      intro hn
      have:=ih (by omega)
      have:=(gg_bd hf n k).2
      rw [zaq]
      simp only [topN] at *
      omega
    have:=this i.toNat (by omega)
    simp only [topN] at this ⊢
    omega
   have eg:((f.2.1.getD (yby i) (yaa 8 0)).getD (yby ((k:Nat):Int)) 0)=gg f i.toNat k:=by
    show _=getG f.2.1 _ _
    simp only [getG,ydw]
   simp only [amount,topN] at hab hb hs
   refine ⟨⟨i1,by omega⟩,⟨by omega,by omega⟩,?_,by simp only [Z.in64];omega,⟨by show 0<=i+1;omega,by show i+1<=(MM f:Int);omega,?_⟩,?_⟩
   ·rw [eg];simp only [Z.in64];omega
   ·show a - _=_ - sumN (i+1).toNat (fun i=>gg f i k)
    rw [eg,e];omega
   ·show ((MM f:Int) - (i+1)).toNat<((MM f:Int) - i).toNat
    omega
  ·have hi:¬ i<(MM f:Int):=of_decide_eq_false hi
   have:i=(MM f:Int):=by omega
   subst this
   show a=lackingV f (k:Nat)
   rw [i3]
   simp only [lackingV,ydw]
   rfl
theorem v104 (x:Flow) (h:k104.pre x):V104 x:=by
 have hf:FlowOk x:=h
 have hM:=hf.m8
 have eT:totalV x=sumN (MM x) fun i=>(mkt x.1).2.1.getD i 0 - leftV x (i:Nat):=by
  simp only [totalV,sumN,idx,List.map_map]
  rfl
 refine ⟨hf.mo.1,fun s=>0<=s.2/\s.2<=(MM x:Int)/\s.1=sumN s.2.toNat fun i=>(mkt x.1).2.1.getD i 0 - leftV x (i:Nat),fun s=>((MM x:Int) - s.2).toNat,⟨by simp,by show (0:Int)<=(MM x:Int);omega,rfl⟩,?_⟩
 rintro ⟨a,i⟩ ⟨i1,i2,i3⟩
 simp only at i1 i2 i3 ⊢
 refine ⟨fun hi=>?_,fun hi=>?_⟩
 ·have hi:i<(MM x:Int):=of_decide_eq_true hi
  have e:=sumN_to i i1 (fun i=>(mkt x.1).2.1.getD i 0 - leftV x (i:Nat))
  have each:∀ j:Nat,j<MM x->0<=(mkt x.1).2.1.getD j 0 - leftV x (j:Nat)/\(mkt x.1).2.1.getD j 0 - leftV x (j:Nat)<=topN/\0<=leftV x (j:Nat):=by
   intro j hj
   have h1:=left_nn hf hj
   have h2:=hf.row j hj
   have h3:=(many_bd hf hj).2
   have h4:0<=rowS x.2.1 ((j:Nat):Int) 8:=zbc fun m _=>hf.pos j m
   simp only [leftV,ydw] at h1 ⊢
   omega
  have hs:0<=sumN i.toNat (fun i=>(mkt x.1).2.1.getD i 0 - leftV x (i:Nat))/\sumN i.toNat (fun i=>(mkt x.1).2.1.getD i 0 - leftV x (i:Nat))<=8*topN:=by
   refine ⟨zbc fun j hj=>(each j (by omega)).1,?_⟩
   have:∀ n,n<=MM x->sumN n (fun i=>(mkt x.1).2.1.getD i 0 - leftV x (i:Nat))<=(n:Int)*topN:=by
    intro n
    induction n with
    | zero=>intro _;simp [zel]
    | succ n ih =>
     intro hn
     have:=ih (by omega)
     have:=(each n (by omega)).2.1
     rw [zaq]
     simp only [topN] at *
     omega
   have:=this i.toNat (by omega)
   simp only [topN] at this ⊢
   omega
  have hb:=each i.toNat (by omega)
  have ei:((i.toNat:Nat):Int)=i:=by omega
  rw [ei] at hb e
  have hmb:=many_bd hf (i:=i.toNat) (by omega)
  simp only [amount,topN] at hb hs hmb
  refine ⟨hf.mo.1,⟨i1,hi⟩,⟨hf,i1,hi⟩,?_,?_,by simp only [Z.in64];omega,⟨by show 0<=i+1;omega,by show i+1<=(MM x:Int);omega,?_⟩,?_⟩
  ·show Z.in64 ((mkt x.1).2.1.getD i.toNat 0 - leftV x i)
   simp only [Z.in64];omega
  ·show Z.in64 (a+((mkt x.1).2.1.getD i.toNat 0 - leftV x i))
   simp only [Z.in64];omega
  ·show a+((mkt x.1).2.1.getD i.toNat 0 - leftV x i)=sumN (i+1).toNat _
   rw [e,i3]
  ·show ((MM x:Int) - (i+1)).toNat<((MM x:Int) - i).toNat
   omega
 ·have hi:¬ i<(MM x:Int):=of_decide_eq_false hi
  have:i=(MM x:Int):=by omega
  subst this
  show a=totalV x
  rw [i3,eT];rfl
theorem v87 (x:List Int) (h:k87.pre x):V87 x:=by
 have h:x.length<=1000:=h
 have e:(yaa 0 (0:Int))++x=x:=rfl
 refine ⟨trivial,fun hx=>⟨fun _=>?_,fun h=>(by cases h)⟩,fun h=>(by cases h),fun _=>⟨zkq (by decide) (by decide) (by rw [e];omega),rfl⟩⟩
 exact hx.symm
theorem zeq (n k:Nat) (h:k<n):ixs ((yaf n).drop k)=((k:Nat):Int)::ixs ((yaf n).drop (k+1)):=by
 rw [zmb (yaf n) 0 k (by simpa using h)]
 simp [ixs,List.getD,h]
end Go.Tt
