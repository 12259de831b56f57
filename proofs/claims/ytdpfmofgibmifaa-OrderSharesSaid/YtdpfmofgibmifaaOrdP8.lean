/-
  Chapter 10: conditions of the examples, proved.
-/
import Derived.Test.YtdpfmofgibmifaaOrdP7
set_option linter.all false
set_option maxRecDepth 100000
set_option maxHeartbeats 4000000
set_option linter.unusedVariables false
namespace Go.Ord
open Go Go.Sx
theorem lists_step {a b:List (List Int)} {i:Nat} (hi:i<a.length) (hj:i<b.length) (h:a.drop i=b.drop i↔a=b):(a.getD i []=b.getD i []∧a.drop (i+1)=b.drop (i+1))↔a=b:=by
 rw [<-h,zdW a [] i hi,zdW b [] i hj,List.cons.injEq]
theorem v23 (x:(List (List Int)) × List (List Int)) (hp:k23.pre x):V23 x:=by
 obtain ⟨a,b⟩:=x
 obtain ⟨ha,hb,hr⟩:a.length<=1000∧b.length<=1000∧∀ l∈a,l.length<=1000:=hp
 refine ⟨fun h=>?_,fun h=>?_⟩
 ·have hne:(!((a.length:Int)==(b.length:Int)))=true:=h
  show false=(a==b)
  symm
  refine beq_eq_false_iff_ne.2 ?_
  rintro rfl
  simp at hne
 have h:(!((a.length:Int)==(b.length:Int)))=false:=h
 have hl:a.length=b.length:=by
  have:((a.length:Int)==(b.length:Int))=true:=by simpa using h
  have:=eq_of_beq this
  omega
 refine ⟨fun s=>0<=s∧s<=(a.length:Int)∧(a.drop s.toNat=b.drop s.toNat↔a=b),fun s=>((a.length:Int) - s).toNat,⟨by omega,by omega,Iff.rfl⟩,?_⟩
 rintro i ⟨i1,i2,hi⟩
 refine ⟨fun hlt=>?_,fun hlt=>?_⟩
 rotate_left
 ·have hlt:¬ i<(a.length:Int):=of_decide_eq_false hlt
  have:a=b:=by
   rw [<-hi,List.drop_of_length_le (by omega),List.drop_of_length_le (by omega)]
  show true=(a==b)
  rw [this];simp
 have hlt:i<(a.length:Int):=of_decide_eq_true hlt
 have hib:i.toNat<b.length:=by omega
 have hia:i.toNat<a.length:=by omega
 have hs:=lists_step hia hib hi
 have hra:=hr _ (zaz a [] i.toNat hia)
 have ei:(i+1).toNat=i.toNat+1:=by omega
 refine ⟨⟨i1,hlt⟩,⟨i1,by show i<(b.length:Int);omega⟩,fun hn=>?_,fun hn=>?_⟩
 ·show false=(a==b)
  symm
  refine beq_eq_false_iff_ne.2 fun e=>?_
  have h2:=(hs.2 e).1
  have hn:(!(((a.getD i.toNat []).length:Int)==((b.getD i.toNat []).length:Int)))=true:=hn
  rw [h2] at hn;simp at hn
 have hn:(!(((a.getD i.toNat []).length:Int)==((b.getD i.toNat []).length:Int)))=false:=hn
 have hll:(a.getD i.toNat []).length=(b.getD i.toNat []).length:=by
  have:(((a.getD i.toNat []).length:Int)==((b.getD i.toNat []).length:Int))=true:=by simpa using hn
  have:=eq_of_beq this
  omega
 obtain ⟨u,hu⟩:∃ u,u=a.getD i.toNat []:=⟨_,rfl⟩
 obtain ⟨v,hv⟩:∃ v,v=b.getD i.toNat []:=⟨_,rfl⟩
 rw [<-hu,<-hv] at hll hs
 rw [<-hu] at hra
 refine ⟨fun s=>0<=s∧s<=(u.length:Int)∧(u.drop s.toNat=v.drop s.toNat↔u=v),fun s=>((u.length:Int) - s).toNat,⟨by omega,by omega,Iff.rfl⟩,?_⟩
 rintro j ⟨j1,j2,hj⟩
 refine ⟨⟨i1,hlt⟩,fun hjl=>?_,fun hjl=>?_⟩
 ·have hjl:j<((a.getD i.toNat []).length:Int):=of_decide_eq_true hjl
  rw [<-hu] at hjl
  have e1:=zdW u 0 j.toNat (by omega)
  have e2:=zdW v 0 j.toNat (by omega)
  have ej:(j+1).toNat=j.toNat+1:=by omega
  refine ⟨⟨i1,hlt⟩,⟨j1,by show j<((a.getD i.toNat []).length:Int);rw [<-hu];exact hjl⟩,⟨i1,by show i<(b.length:Int);omega⟩,⟨j1,by show j<((b.getD i.toNat []).length:Int);rw [<-hv];omega⟩,fun hne=>?_,fun hne=>⟨by simp only [Z.in64];omega,⟨by omega,by omega,?_⟩,by show ((u.length:Int) - (j+1)).toNat<((u.length:Int) - j).toNat;omega⟩⟩
  ·show false=(a==b)
   symm
   refine beq_eq_false_iff_ne.2 fun e=>?_
   have h2:=(hs.2 e).1
   have hne:(!((a.getD i.toNat []).getD j.toNat 0==(b.getD i.toNat []).getD j.toNat 0))=true:=hne
   rw [<-hu,<-hv,h2] at hne;simp at hne
  ·have hne:(!((a.getD i.toNat []).getD j.toNat 0==(b.getD i.toNat []).getD j.toNat 0))=false:=hne
   rw [<-hu,<-hv] at hne
   have he:u.getD j.toNat 0=v.getD j.toNat 0:=by
    have:(u.getD j.toNat 0==v.getD j.toNat 0)=true:=by simpa using hne
    exact eq_of_beq this
   rw [ej,<-hj,e1,e2,he]
   simp
 ·have hjl:¬ j<((a.getD i.toNat []).length:Int):=of_decide_eq_false hjl
  rw [<-hu] at hjl
  have huv:u=v:=by
   rw [<-hj,List.drop_of_length_le (by omega),List.drop_of_length_le (by omega)]
  refine ⟨by simp only [Z.in64];omega,⟨by omega,by omega,?_⟩,by show ((a.length:Int) - (i+1)).toNat<((a.length:Int) - i).toNat;omega⟩
  rw [ei,<-hs]
  exact ⟨fun h=>⟨huv,h⟩,fun h=>h.2⟩
theorem v49 (x:Flow × Int × Int × Int) (hp:k49.pre x):V49 x:=by
 obtain ⟨f,i,k,n⟩:=x
 obtain ⟨⟨h0,h1,h2,h3⟩,⟨i1,i2⟩,⟨k1,k2⟩,n0,n1,n2⟩:=hp
 obtain ⟨i,rfl⟩:=Int.eq_ofNat_of_zero_le i1
 obtain ⟨k,rfl⟩:=Int.eq_ofNat_of_zero_le k1
 have n0:0<=n:=n0
 simp only [Int.toNat_natCast] at n1 n2 i2 k2 h1
 have h1:MarketOk (mkt f.1):=h1
 have L:=least_ok (m:=mkt f.1) (c:=f.2.2.1) ⟨h1,h2,h3⟩ (i:=i) (k:=k) (n:=n) (by omega) (by omega) n0 n1 n2
 have hmi:=h1.many _ (zaz (mkt f.1).2.1 0 i (by omega))
 have hak:=h1.asked _ (zaz (mkt f.1).1 0 k (by omega))
 have a8:(mkt f.1).1.length<=8:=h1.a8
 have m8:(mkt f.1).2.1.length<=8:=h1.m8
 simp only [amount,topN] at hmi hak
 have in1:Z.in64 ((mkt f.1).1.getD k 0 - n):=by simp only [Z.in64];omega
 have in2:Z.in64 ((mkt f.1).2.1.getD i 0 - n):=by simp only [Z.in64];omega
 have l1:zas (mkt f.1).1:=by show (mkt f.1).1.length<=1000;omega
 have l2:zas (mkt f.1).2.1:=by show (mkt f.1).2.1.length<=1000;omega
 exact ⟨h0,l1,h0,l2,h0,⟨k1,k2⟩,in1,⟨k1,k2⟩,⟨i1,i2⟩,in2,⟨i1,i2⟩,trivial,trivial,trivial,trivial,⟨L.1,trivial,trivial⟩,rfl⟩
theorem v24 (x:Int) (_:k24.pre x):V24 x:=⟨trivial,trivial,trivial,trivial,trivial,trivial,rfl⟩
theorem share_len (n:Nat):∀ (l:List Int) (m:Market) (c:List Int),(shareI n l m c).length=l.length
 | [],_,_=>rfl
 | i::l,m,c=>by rw [shareI,List.length_cons,share_len n l];rfl
theorem shareK_len (i:Int):∀ (r l:List Int) (m:Market) (c:List Int),(shareK i r l m c).1.length=l.length
 | [],_,_,_=>rfl
 | k::r,l,m,c=>by
  rw [shareK]
  cases hasB (m.2.2.getD i.toNat 0) k with
  | true=>rw [cond_true,shareK_len i r];simp
  | false=>rw [cond_false,shareK_len i r]
theorem share_rows (n:Nat):∀ (l:List Int) (m:Market) (c:List Int),∀ r∈shareI n l m c,r.length=n
 | [],_,_,r,hr=>by cases hr
 | i::l,m,c,r,hr=>by
  rw [shareI] at hr
  rcases List.mem_cons.1 hr with rfl | hr
  ·rw [shareK_len];simp
  ·exact share_rows n l _ _ r hr
theorem zep (x:Sale):(zam x).1.length<=1000∧∀ l∈(zam x).1,l.length<=1000:=by
 cases h:saleB x with
 | false=>rw [zam,h];exact ⟨by simp,fun l hl=>(by cases hl)⟩
 | true =>
  have W:=worst_ok h
  have S:=zbN.1 h
  rw [zam,h]
  refine ⟨?_,fun l hl=>?_⟩
  ·show (shareV (worstM x)).length<=1000
   rw [shareV,share_len]
   have:(idx (worstM x).2.1.length).length=(worstM x).2.1.length:=by simp [idx]
   rw [this]
   have:=W.m8
   omega
  ·have:=share_rows _ _ _ _ l hl
   have:=W.a8
   omega
theorem v14 (x:Unit) (_:k14.pre x):V14 x:=by
 refine ⟨trivial,trivial,trivial,trivial,trivial,trivial,trivial,trivial,fun _=>⟨(zep _).1,by decide,(zep _).2⟩,?_⟩
 show (_:Bool)=true
 kernel_rfl
theorem v5 (x:Unit) (_:k5.pre x):V5 x:=by
 refine ⟨trivial,trivial,trivial,trivial,trivial,trivial,trivial,trivial,trivial,trivial,trivial,trivial,fun _=>trivial,fun _=>⟨(zep _).1,by decide,(zep _).2⟩,?_⟩
 show (_:Bool)=true
 kernel_rfl
end Go.Ord
