/-
  Chapter 10: conditions of the market's functions, proved.
-/
import Derived.Test.YtdhdklojcppfcaaTtOP1
set_option linter.all false
set_option maxRecDepth 100000
set_option maxHeartbeats 4000000
set_option linter.unusedVariables false
open Int renaming toNat->yby
open List renaming filter_append->ydL,getD->yda
namespace Go.Tt
open Go Go.Sx
instance (x:Int):Decidable (V210 x):=by unfold V210;exact inferInstance
theorem all210:∀ n,n<256->V210 ((n:Nat):Int):=of_decide_eq_true (by kernel_rfl)
theorem zlp {x:Int} (h:smallSet x):∃ n:Nat,n<256/\x=(n:Int):=⟨x.toNat,by simp only [smallSet] at h;omega,by simp only [smallSet] at h;omega⟩
theorem v210 (x:Int) (h:k210.pre x):V210 x:=by
 obtain ⟨n,h1,rfl⟩:=zlp h
 exact all210 n h1
theorem v209 (x:Int) (h:k209.pre x):V209 x:=h.elim
theorem v196 (x:Int) (h:k196.pre x):V196 x:=⟨fun h=>(by cases h),fun _=>⟨h,rfl⟩⟩
theorem wrap_u {x:Int} (h:smallSet x):Go.IntKind.wrap .u64 x=x:=by
 obtain ⟨n,h1,rfl⟩:=zlp h
 have key:∀ n,n<256->Go.IntKind.wrap .u64 ((n:Nat):Int)=(n:Int):=of_decide_eq_true (by kernel_rfl)
 exact key n h1
theorem v166 (x:Int) (h:k166.pre x):V166 x:=by
 unfold V166
 rw [wrap_u h]
 exact ⟨h,rfl⟩
theorem v108 (x:(Int × Int) × Int × Int) (h:k108.pre x):V108 x:=by
 refine ⟨fun hb=>?_,fun hb=>⟨h.1,h.2,?_⟩⟩
 ·show decide _=worseB x.1 x.2
  rw [worseB,hb];rfl
 ·show decide _=worseB x.1 x.2
  rw [worseB,hb];rfl
theorem v105 (x:Option Market) (h:k105.pre x):V105 x:=by
 have hl:((mkt x).1.length:Int)<=8:=by have:=h.2.a8;omega
 refine ⟨h.1,⟨⟨by omega,by show ((mkt x).1.length:Int)<64;omega⟩,(shl_ok (k:=((mkt x).1.length:Int)) (by omega) (by omega)).2⟩,?_,?_⟩
 ·have h1:(2:Nat)^((mkt x).1.length:Int).toNat<=2^8:=Nat.pow_le_pow_right (by decide) (by omega)
  have h2:=pow_nn ((mkt x).1.length:Int)
  show Z.in64 (1*2^yby ((mkt x).1.length:Int) - 1)
  rw [Int.one_mul,pow_int] at h2 ⊢
  generalize 2^((mkt x).1.length:Int).toNat=m at *
  simp only [Z.in64];omega
 ·show (1*2^yby ((mkt x).1.length:Int) - 1:Int)=allV (mkt x).1.length
  simp [allV]
theorem zil {n i:Nat} (h:i<n):(setsTo n).getD i 0=(i:Int):=by
 simp [setsTo,yda,h]
theorem zhy {α:Type} (p:α->Bool) (l:List α) (d:α) (i:Int) (h0:0<=i) (h:i<(l.length:Int)) :
  l.filter p=(l.take i.toNat).filter p++(if p (l.getD i.toNat d)=true then [l.getD i.toNat d] else [])++(l.drop (i+1).toNat).filter p /\
  (l.take (i+1).toNat).filter p=(l.take i.toNat).filter p++(if p (l.getD i.toNat d)=true then [l.getD i.toNat d] else []):=by
 have e:(i+1).toNat=i.toNat+1:=by omega
 have h':i.toNat<l.length:=by omega
 have e2:(l.take (i+1).toNat).filter p=(l.take i.toNat).filter p++(if p (l.getD i.toNat d)=true then [l.getD i.toNat d] else []):=by
  rw [e,List.take_succ_eq_append_getElem h',ydL]
  have:l.getD i.toNat d=l[i.toNat]:=by simp [yda,h']
  rw [this,List.filter_cons]
  split<;>simp_all
 refine ⟨?_,e2⟩
 rw [<-e2,<-ydL,List.take_append_drop]
theorem v162 (ly:Nat) (x:Int) (h:k162.pre x):V162 ly x:=by
 have h:smallSet x:=h
 have h0:=h
 simp only [smallSet] at h
 have hlen:((setsTo (x.toNat+1)).length:Int)=x+1:=by simp [setsTo];omega
 refine ⟨by simp only [Z.in64];omega,fun s=>0<=s.1/\s.1<=x+1/\s.2.2=false/\s.2.1=((setsTo (x.toNat+1)).take s.1.toNat).filter (fun y=>subB y x),fun s=>(x+1 - s.1).toNat,⟨by simp,by simp;omega,rfl,by simp⟩,?_⟩
 rintro ⟨i,l,b⟩ ⟨h1,h2,h3,h4⟩
 simp only at h1 h2 h3 h4 ⊢
 subst h3
 refine ⟨fun hi=>⟨trivial,trivial,⟨h1,h.1⟩,trivial,trivial,trivial,trivial,?_,?_⟩,fun hi _=>?_⟩
 ·have hi:=of_decide_eq_true hi
  obtain ⟨e1,e2⟩:=zhy (fun y=>subB y x) (setsTo (x.toNat+1)) 0 i h1 (by omega)
  have hg:(setsTo (x.toNat+1)).getD i.toNat 0=i:=by rw [zil (by omega)];omega
  rw [hg] at e1 e2
  intro hs
  have hs:subB i x=true:=hs
  rw [if_pos hs] at e1 e2
  refine ⟨⟨trivial,rfl⟩,⟨((setsTo (x.toNat+1)).drop (i+1).toNat).filter (fun y=>subB y x),?_⟩,⟨trivial,trivial,fun hh=>(by rw [Bool.and_eq_true] at hh;cases hh.2),fun _=>⟨by simp only [Z.in64];omega,⟨by show 0<=i+1;omega,by show i+1<=_;omega,trivial,?_⟩,?_⟩⟩,⟨trivial,trivial,fun _ hh=>(by cases hh),fun hh=>?_⟩⟩
  ·show partsV x=_
   rw [partsV,e1,h4,List.append_assoc]
   rfl
  ·show l++[i]=_
   rw [e2,h4]
  ·show (x+1 - (i+1)).toNat<(x+1 - i).toNat
   omega
  ·rw [show ((((yby (i)) ^^^ ((yby (i)) &&& (yby (x))):Nat):Int)==0)=subB i x from rfl,hs] at hh
   cases hh
 ·have hi:=of_decide_eq_true hi
  obtain ⟨e1,e2⟩:=zhy (fun y=>subB y x) (setsTo (x.toNat+1)) 0 i h1 (by omega)
  have hg:(setsTo (x.toNat+1)).getD i.toNat 0=i:=by rw [zil (by omega)];omega
  rw [hg] at e1 e2
  intro hs
  have hs:subB i x=false:=hs
  rw [if_neg (by rw [hs];simp)] at e1 e2
  refine ⟨trivial,trivial,fun hh=>?_,fun _=>⟨by simp only [Z.in64];omega,⟨by show 0<=i+1;omega,by show i+1<=_;omega,rfl,?_⟩,?_⟩⟩
  ·rw [show ((((yby (i)) ^^^ ((yby (i)) &&& (yby (x))):Nat):Int)==0)=subB i x from rfl,hs] at hh
   cases hh
  ·show l=_
   rw [e2,h4,List.append_nil]
  ·show (x+1 - (i+1)).toNat<(x+1 - i).toNat
   omega
 ·have hi:=of_decide_eq_false hi
  show l=partsV x
  rw [h4,List.take_of_length_le (by omega)];rfl
theorem v106 (x:Int) (_:k106.pre x):V106 x:=rfl
theorem ziv {x y:Int} (h:smallSet x) (hy:y∈partsV x):smallSet y:=by
 simp only [partsV,List.mem_filter,setsTo,List.mem_map,List.mem_range] at hy
 obtain ⟨⟨n,h1,rfl⟩,_⟩:=hy
 simp only [smallSet] at h ⊢
 omega
theorem v109 (x:(Option Market) × Int) (h:k109.pre x):V109 x:=by
 refine ⟨trivial,h.2,fun l s=>(∀ y∈l,smallSet y)/\meetsM (mkt x.1) x.2=l.all fun y=>!decide (0<lackM (mkt x.1) y),⟨fun y hy=>ziv h.2 hy,rfl⟩,?_,?_⟩
 ·rintro e r s ⟨h1,h2⟩
  rw [List.all_cons] at h2
  refine ⟨⟨h.1,h1 e List.mem_cons_self⟩,fun hb=>?_,fun hb=>⟨fun y hy=>h1 y (List.mem_cons_of_mem _ hy),?_⟩⟩
  ·have hb:decide (0<lackM (mkt x.1) e)=true:=hb
   show false=meetsM (mkt x.1) x.2
   rw [h2,hb];rfl
  ·have hb:decide (0<lackM (mkt x.1) e)=false:=hb
   rw [h2,hb];rfl
 ·rintro s ⟨_,h2⟩
  exact h2.symm
end Go.Tt
