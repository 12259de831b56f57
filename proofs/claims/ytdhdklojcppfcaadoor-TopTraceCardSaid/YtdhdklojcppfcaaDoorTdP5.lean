/-
  Rows, the examples, and TopTrace itself.
-/
import Derived.Test.YtdhdklojcppfcaaDoorTdL2
set_option linter.all false
set_option maxRecDepth 100000
set_option maxHeartbeats 4000000
namespace Go.Td
open Go Go.Sx
theorem range_getD {α:Type} (f:Nat->α) (d:α) {n i:Nat} (h:i<n):((List.range n).map f).getD i d=f i:=by
 simp [List.getD,h]
theorem ext_getD {α:Type} {l r:List α} (d:α) (hl:l.length=r.length) (h:∀ i,i<l.length->l.getD i d=r.getD i d):l=r:=by
 refine List.ext_getElem hl fun i h1 h2=>?_
 have:=h i h1
 rw [List.getD_eq_getElem?_getD,List.getD_eq_getElem?_getD,List.getElem?_eq_getElem h1,List.getElem?_eq_getElem h2] at this
 exact this
theorem v12 (x:(List (List Int)) × List (List Int)) (h:k12.pre x):V12 x:=by
 obtain ⟨a,b⟩:=x
 obtain ⟨⟨h1,h2⟩,h3⟩:(a.length<=big∧b.length<=big)∧∀ l∈a,l.length<=big:=h
 have no:∀ {P:Prop},(a=b->False)->false=zbA (a,b):=fun hn=>by
  cases hr:zbA (a,b) with
  | false=>rfl
  | true=>exact (hn (eq_of_beq hr)).elim
 refine ⟨fun he=>no (P:=True) fun e=>?_,fun he=>?_⟩
 ·subst e
  have he:(!((a.length:Int)==(a.length:Int)))=true:=he
  simp at he
 have hlen:a.length=b.length:=by
  have he:(!((a.length:Int)==(b.length:Int)))=false:=he
  have:=eq_of_beq (not_iff.2.1 he)
  omega
 refine ⟨fun s=>∃ i:Nat,s=(i:Int)∧i<=a.length∧∀ j,j<i->a.getD j []=b.getD j [],fun s=>((a.length:Int) - s).toNat,⟨0,rfl,by omega,fun j hj=>by omega⟩,?_⟩
 rintro _ ⟨i,rfl,hi,hall⟩
 refine ⟨fun hd=>?_,fun hd=>?_⟩
 ·have hd:(i:Int)<(a.length:Int):=of_decide_eq_true hd
  have hil:i<a.length:=by omega
  have ia:(0:Int)<=(i:Int)∧(i:Int)<(a.length:Int):=⟨by omega,hd⟩
  have ib:(0:Int)<=(i:Int)∧(i:Int)<(b.length:Int):=⟨by omega,by omega⟩
  have hra:(a.getD i []).length<=big:=h3 _ (zbi a [] i hil)
  dsimp only
  rw [Int.toNat_natCast]
  generalize hA:a.getD i []=A at *
  generalize hB:b.getD i []=B at *
  refine ⟨ia,ib,fun hl=>no (P:=True) fun e=>?_,fun hl=>?_⟩
  ·subst e
   rw [<-hA,<-hB] at hl
   simp at hl
  have hlen2:A.length=B.length:=by
   have:=eq_of_beq (not_iff.2.1 hl)
   omega
  refine ⟨fun s=>∃ k:Nat,s=(k:Int)∧k<=A.length∧∀ j,j<k->A.getD j 0=B.getD j 0,fun s=>((A.length:Int) - s).toNat,⟨0,rfl,by omega,fun j hj=>by omega⟩,?_⟩
  rintro _ ⟨k,rfl,hk,hall2⟩
  refine ⟨ia,fun hd2=>?_,fun hd2=>?_⟩
  ·have hd2:(k:Int)<(A.length:Int):=of_decide_eq_true hd2
   dsimp only
   rw [Int.toNat_natCast]
   refine ⟨ia,⟨by omega,hd2⟩,ib,⟨by omega,by omega⟩,fun hne=>no (P:=True) fun e=>?_,fun hne=>?_⟩
   ·subst e
    rw [<-hA,<-hB] at hne
    simp at hne
   ·have hne:=eq_of_beq (not_iff.2.1 hne)
    refine ⟨by simp only [Z.in64,big] at *;omega,⟨k+1,rfl,by omega,fun j hj=>?_⟩,by omega⟩
    by_cases hjk:j=k
    ·subst hjk;exact hne
    ·exact hall2 j (by omega)
  ·have hd2:¬ (k:Int)<(A.length:Int):=of_decide_eq_false hd2
   have:k=A.length:=by omega
   subst this
   refine ⟨by simp only [Z.in64,big] at *;omega,⟨i+1,rfl,by omega,fun j hj=>?_⟩,by omega⟩
   by_cases hji:j=i
   ·subst hji
    rw [hA,hB]
    exact ext_getD 0 hlen2 hall2
   ·exact hall j (by omega)
 ·have hd:¬ (i:Int)<(a.length:Int):=of_decide_eq_false hd
  have:i=a.length:=by omega
  subst this
  have e:a=b:=ext_getD [] hlen hall
  subst e
  show true=(a==a)
  simp
theorem two_ex:Two [(0,0),(0,0),(3,5)]:=by
 refine ⟨2,fun i hi=>?_⟩
 have hi:i<3:=hi
 have:∀ i,i<3->(i<2->(([(0,0),(0,0),(3,5)]:List Batch).getD i noB).1=0)∧(([(0,0),(0,0),(3,5)]:List Batch).getD i noB).1<bitZ 2:=by decide
 exact this i hi
theorem v5 (x:Unit) (_:k5.pre x):V5 x:=by
 have e1:zas ([2,1,1],[(3,10),(6,6),(4,3)],4)=([[8,2,0],[0,2,4],[0,0,0]],0):=by kernel_rfl
 refine ⟨trivial,⟨by show 3<=big;simp only [big];omega,two_ex⟩,?_,by kernel_rfl⟩
 show zdv ((zas ([2,1,1],[(3,10),(6,6),(4,3)],4)).1,[[8,2,0],[0,2,4],[0,0,0]])
 rw [e1]
 refine ⟨⟨by show 3<=big;simp only [big];omega,by show 3<=big;simp only [big];omega⟩,fun l hl=>?_⟩
 have hl:l∈[[8,2,0],[0,2,4],[0,0,(0:Int)]]:=hl
 simp only [List.mem_cons,List.not_mem_nil,or_false] at hl
 rcases hl with rfl | rfl | rfl<;>(show 3<=big;simp only [big];omega)
theorem fill_is {need:List Int} {l:List Pile} (hb:BoxIs need l) {B:Int} (h0:0<=B) (h1:B<=21845) :
  (zas (need,l,B)=([],10))∨((zas (need,l,B)).2=0∧(zas (need,l,B)).1.length=l.length∧∀ i,i<l.length->((zas (need,l,B)).1.getD i []).length=need.length):=by
 have hc:(zay (need,l,B)==0)=true:=by
  have hbb:=box_iff.2 hb
  have hin:inB B 0 topN=true:=inB_iff.2 ⟨h0,by simp only [topN];omega⟩
  unfold zay
  simp only [hbb,cond_true,hin];rfl
 cases hcan:canF (timesV need B) l with
 | false =>
  left
  rw [zas,hc,cond_true]
  show cond (canF (timesV need B) l) _ _=_
  rw [hcan,cond_false]
 | true =>
  right
  have hval:zas (need,l,B)=((List.range l.length).map fun i=>((fillAll (need,l,B)).getD i zRow).take need.length,0):=by
   rw [zas,hc,cond_true]
   show cond (canF (timesV need B) l) _ _=_
   rw [hcan,cond_true]
  have hpk:=pack_ok hb.n8 hb.l8 hb.small (fill_start hb h0 (by omega:B<=8388609)) l.length (Nat.le_refl _)
  rw [hval]
  refine ⟨rfl,by rw [List.length_map,List.length_range],fun i hi=>?_⟩
  show ((List.map (fun i=>((fillAll (need,l,B)).getD i zRow).take need.length) (List.range l.length)).getD i []).length=_
  rw [range_getD _ _ hi,List.length_take]
  have hrow:((fillAll (need,l,B)).getD i zRow).length=8:=by
   have hl8:=hb.l8
   have hd8:(fillAll (need,l,B)).length=8:=hpk.d8
   have hm:=zbi (fillAll (need,l,B)) zRow i (by rw [hd8];omega)
   exact hpk.dr _ hm
  rw [hrow]
  have:=hb.n8
  omega
def gvN (rows:List (List Int)) (k i:Nat):Int:=orN (fun j=>decide (0<(rows.getD j []).getD k 0)) (fun j=>bitZ j) i
theorem gvN_succ (rows:List (List Int)) (k i:Nat):gvN rows k (i+1)=cond (decide (0<(rows.getD i []).getD k 0)) (orZ (gvN rows k i) (bitZ i)) (gvN rows k i):=zdl ..
theorem gvN_lt (rows:List (List Int)) (k i:Nat):0<=gvN rows k i∧gvN rows k i<bitZ i:=by
 obtain ⟨h0,h1⟩:=orN_bit (fun j=>decide (0<(rows.getD j []).getD k 0)) (fun j=>bitZ j) i
 refine ⟨h0,lt_bit.2 fun j hj=>?_⟩
 show (orN _ _ i).toNat.testBit j=false
 rw [h1,List.any_eq_false]
 intro m hm
 have:=List.mem_range.1 hm
 rw [bit_bit,decide_eq_false (show ¬ m=j by omega)]
 simp
end Go.Td
/-
 TopTrace: its condition.
-/
set_option maxHeartbeats 8000000
namespace Go.Td
open Go Go.Sx
theorem mul_bd {a b A B:Int} (ha:0<=a∧a<=A) (hb:0<=b∧b<=B):0<=a*b∧a*b<=A*B :=
 ⟨Int.mul_nonneg ha.1 hb.1,Int.mul_le_mul ha.2 hb.2 hb.1 (by omega)⟩
theorem setGetSame {α:Type} (l:List α) (i:Nat) (a d:α) (h:i<l.length):(l.set i a).getD i d=a:=by
 simp [List.getD,h]
theorem setGetNe {α:Type} (l:List α) (i j:Nat) (a d:α) (h:i≠j):(l.set i a).getD j d=l.getD j d:=by
 rw [List.getD_eq_getElem?_getD,List.getD_eq_getElem?_getD,List.getElem?_set_ne h]
theorem getD_app_l {α:Type} (l r:List α) (i:Nat) (d:α) (h:i<l.length):(l++r).getD i d=l.getD i d:=by
 rw [List.getD_eq_getElem?_getD,List.getD_eq_getElem?_getD,List.getElem?_append_left h]
theorem getD_app_one {α:Type} (l:List α) (a d:α):(l++[a]).getD l.length d=a:=by
 simp [List.getD]
theorem getD_rep {α:Type} (n i:Nat) (d:α):(List.replicate n d).getD i d=d:=by
 rw [List.getD_eq_getElem?_getD,List.getElem?_replicate]
 split<;>rfl
structure CardsTo (rows:List (List Int)) (need:List Int) (B:Int) (p k:Nat) (C:List Batch):Prop where
 len:C.length=p+k
 low:∀ i,i<p->C.getD i noB=noB
 high:∀ m,m<k->C.getD (p+m) noB=(gvN rows m p,B*need.getD m 0)
structure GaveTo (rows:List (List Int)) (n p k:Nat) (g:List Int):Prop where
 len:g.length=n
 done:∀ m,m<k->g.getD m 0=gvN rows m p
 rest:∀ m,k<=m->g.getD m 0=0
theorem tmod_in {a b:Int} (ha:0<=a) (hb:0<b):0<=Int.tmod a b∧Int.tmod a b<b :=
 ⟨Int.tmod_nonneg b ha,Int.tmod_lt_of_pos a hb⟩
section
variable {rows:List (List Int)} {need:List Int} {l:List Pile} {B bad fine:Int}
theorem trace_end (hb:BoxIs need l) (hB0:0<=B) (hB1:B<=21845) {C:List Batch} {g:List Int} (hC:CardsTo rows need B l.length need.length C) (hg:GaveTo rows need.length l.length need.length g) :
  Cards C l.length need.length (fun m=>gvN rows m l.length) (fun m=>B*need.getD m 0):=by
 have h1:=hb.n8
 have h2:=hb.l8
 refine ⟨hC.len,by omega,hC.low,fun m hm=>hC.high m hm,fun m hm=>gvN_lt rows m l.length,fun m hm=>?_⟩
 obtain ⟨d0,d1⟩:=hb.nd _ (zbi need 0 m hm)
 obtain ⟨e0,e1⟩:=mul_bd (a:=B) (b:=need.getD m 0) (A:=21845) (B:=48) ⟨hB0,hB1⟩ ⟨d0,d1⟩
 exact ⟨e0,by omega⟩
end
theorem v3 (x:(List Int) × (List Pile) × Int × Int × Int) (h:k3.pre x):V3 x:=by
 obtain ⟨need,l,B,bad,fine⟩:=x
 obtain ⟨⟨b0,b1⟩,f0,f1⟩:(0<=bad∧bad<=255)∧0<=fine∧fine<=255:=h
 unfold V3
 dsimp only
 refine ⟨trivial,fun _=>⟨trivial,rfl⟩,fun hgd=>?_⟩
 obtain ⟨hb,hB0,hB1⟩:BoxIs need l∧0<=B∧B<=21845:=by
  rw [Bool.or_eq_false_iff,Bool.or_eq_false_iff] at hgd
  obtain ⟨⟨h1,h2⟩,h3⟩:=hgd
  have h2:=of_decide_eq_false h2
  have h3:=of_decide_eq_false h3
  exact ⟨box_iff.1 (not_iff.2.1 h1),by omega,by omega⟩
 clear hgd
 have hf:=fill_is hb hB0 hB1
 obtain ⟨F,hF⟩:∃ F,F=zas (need,l,B):=⟨_,rfl⟩
 rw [<-hF] at hf ⊢
 refine ⟨trivial,fun he=>?_,fun he=>?_⟩
 ·rcases hf with hf | hf
  ·rw [hf];exact ⟨fun _=>trivial,rfl⟩
  ·rw [hf.1] at he;cases he
 have hf:F.1.length=l.length∧∀ i,i<l.length->(F.1.getD i []).length=need.length:=by
  rcases hf with hf | hf
  ·rw [hf] at he;cases he
  ·exact hf.2
 clear he hF
 obtain ⟨rows,e2⟩:=F
 dsimp only at hf ⊢
 obtain ⟨hrl,hrr⟩:=hf
 have n1:=hb.n1
 have n8:=hb.n8
 have p8:=hb.l8
 refine ⟨fun hne=>?_,fun _=>⟨⟨⟨by omega,by omega⟩,roomy_of (by decide) (by decide) (by omega)⟩,⟨⟨by omega,by omega⟩,roomy_of (by decide) (by decide) (by omega)⟩,?_⟩⟩
 ·rw [hrl] at hne;simp at hne
 rw [Int.toNat_natCast,Int.toNat_natCast]
 refine ⟨fun s=>∃ k:Nat,s.2.1=(k:Int)∧k<=need.length∧CardsTo rows need B l.length k s.1∧GaveTo rows need.length l.length k s.2.2,fun s=>((need.length:Int) - s.2.1).toNat,⟨0,rfl,by omega,⟨List.length_replicate ..,fun i _=>getD_rep _ _ _,fun m hm=>by omega⟩,⟨List.length_replicate ..,fun m hm=>by omega,fun m _=>getD_rep _ _ _⟩⟩,?_⟩
 rintro ⟨C,_,g⟩ ⟨k,rfl,hk,hC,hg⟩
 dsimp only at hC hg ⊢
 refine ⟨fun hd=>?_,fun hd=>?_⟩
 ·have hd:(k:Int)<(need.length:Int):=of_decide_eq_true hd
  have hkn:k<need.length:=by omega
  have hgz:g.getD k 0=0:=hg.rest k (Nat.le_refl _)
  refine ⟨fun s=>∃ i:Nat,s.1=(i:Int)∧i<=l.length∧s.2.length=need.length∧s.2.getD k 0=gvN rows k i∧∀ m,m≠k->s.2.getD m 0=g.getD m 0,fun s=>((l.length:Int) - s.1).toNat,⟨0,rfl,by omega,hg.len,hgz,fun m _=>rfl⟩,?_⟩
  rintro ⟨_,g'⟩ ⟨i,rfl,hi,gl,gk,go⟩
  dsimp only at gl gk go ⊢
  rw [Int.toNat_natCast,Int.toNat_natCast]
  refine ⟨fun hd2=>?_,fun hd2=>?_⟩
  ·have hd2:(i:Int)<(l.length:Int):=of_decide_eq_true hd2
   have hil:i<l.length:=by omega
   have hri:=hrr i hil
   have ir:(0:Int)<=(i:Int)∧(i:Int)<(rows.length:Int):=⟨by omega,by omega⟩
   have kg:(0:Int)<=(k:Int)∧(k:Int)<(g'.length:Int):=⟨by omega,by omega⟩
   have hm:((l.length:Int) - ((i:Int)+1)).toNat<((l.length:Int) - (i:Int)).toNat:=by omega
   refine ⟨ir,fun hne=>?_,fun _=>⟨ir,⟨by omega,by omega⟩,fun hv=>⟨kg,?_,?_,kg,by simp only [Z.in64];omega,rfl,⟨i+1,rfl,by omega,?_,?_,fun m hm=>?_⟩,hm⟩,fun hv=>⟨by simp only [Z.in64];omega,rfl,⟨i+1,rfl,by omega,gl,?_,go⟩,hm⟩⟩⟩
   ·rw [hri] at hne;simp at hne
   ·obtain ⟨e,e1,e2⟩:=shl24 (show i<=24 by omega)
    rw [Int.toNat_natCast] at e
    rw [e]
    exact ⟨⟨by omega,by omega⟩,by simp only [Z.in64];omega⟩
   ·rw [one_shl,gk]
    exact ⟨(gvN_lt rows k i).1,Int.le_of_lt (bit_pos i)⟩
   ·show (g'.set k _).length=_
    rw [List.length_set];exact gl
   ·show (g'.set k _).getD k 0=_
    rw [setGetSame _ _ _ _ (by omega),gvN_succ,hv,cond_true,gk,one_shl];rfl
   ·show (g'.set k _).getD m 0=_
    rw [setGetNe _ _ _ _ _ (Ne.symm hm)];exact go m hm
   ·show g'.getD k 0=_
    rw [gvN_succ,hv,cond_false];exact gk
  ·have hd2:¬ (i:Int)<(l.length:Int):=of_decide_eq_false hd2
   have:i=l.length:=by omega
   subst this
   obtain ⟨d0,d1⟩:=hb.nd _ (zbi need 0 k hkn)
   obtain ⟨q0,q1⟩:=mul_bd (a:=B) (b:=need.getD k 0) (A:=21845) (B:=48) ⟨hB0,hB1⟩ ⟨d0,d1⟩
   have hCl:=hC.len
   have hone:∀ a:Batch,(List.replicate 1 ((0,0):Batch)).set 0 a=[a]:=fun _=>rfl
   rw [hone]
   refine ⟨⟨by omega,by omega⟩,⟨by omega,by omega⟩,by simp only [Z.in64];omega,roomy_of (by decide) (by decide) (by rw [List.length_append,hCl,List.length_singleton];omega),by simp only [Z.in64];omega,⟨k+1,rfl,hkn,⟨?_,fun i hi=>?_,fun m hm=>?_⟩,⟨gl,fun m hm=>?_,fun m hm=>?_⟩⟩,by omega⟩
   ·show (C++_).length=_
    rw [List.length_append,hCl,List.length_singleton];omega
   ·show (C++_).getD i noB=_
    rw [getD_app_l _ _ _ _ (by omega)];exact hC.low i hi
   ·show (C++_).getD (l.length+m) noB=_
    by_cases hmk:m=k
    ·subst hmk
     rw [<-hCl,getD_app_one,gk]
    ·rw [getD_app_l _ _ _ _ (by omega)]
     exact hC.high m (by omega)
   ·show g'.getD m 0=_
    by_cases hmk:m=k
    ·subst hmk;exact gk
    ·rw [go m hmk];exact hg.done m (by omega)
   ·show g'.getD m 0=_
    rw [go m (by omega)];exact hg.rest m (by omega)
 ·have hd:¬ (k:Int)<(need.length:Int):=of_decide_eq_false hd
  have:k=need.length:=by omega
  subst this
  have hCards:=trace_end hb hB0 hB1 hC hg
  have hgl:=hg.len
  obtain ⟨K,eK,hKn⟩:∃ K:Nat,Int.tmod bad (need.length:Int)=(K:Int)∧K<need.length:=by
   obtain ⟨t0,t1⟩:=tmod_in b0 (show 0<(need.length:Int) by omega)
   exact ⟨(Int.tmod bad (need.length:Int)).toNat,by omega,by omega⟩
  obtain ⟨gv,hgv⟩:∃ gv:Nat->Int,gv=fun m=>gvN rows m l.length:=⟨_,rfl⟩
  obtain ⟨sd,hsd⟩:∃ sd:Nat->Int,sd=fun m=>B*need.getD m 0:=⟨_,rfl⟩
  rw [<-hgv,<-hsd] at hCards
  have gat:∀ m,m<need.length->g.getD m 0=gv m:=fun m hm=>by rw [hgv];exact hg.done m hm
  have sat:∀ m,B*need.getD m 0=sd m:=fun m=>by rw [hsd]
  have ep:(l.length:Int)+(K:Int)=((l.length+K:Nat):Int):=by omega
  rw [eK]
  simp only [Int.toNat_natCast,one_shl]
  rw [ep,gat K hKn,sat K]
  simp only [Int.toNat_natCast]
  obtain ⟨T,hT,t0,t1⟩:∃ T,Int.tmod fine (bitZ need.length)=T∧0<=T∧T<bitZ need.length:=⟨_,rfl,tmod_in f0 (bit_pos _)⟩
  rw [hT]
  obtain ⟨G,hG⟩:∃ G,((T.toNat ^^^ (T.toNat &&& (bitZ K).toNat):Nat):Int)=G:=⟨_,rfl⟩
  rw [hG]
  have hG':G=offZ T (bitZ K):=hG.symm
  have g0:0<=G:=by rw [hG'];exact off_nn _ _
  have g1:G<bitZ need.length:=by rw [hG'];exact off_lt t1
  have gk:G.toNat.testBit K=false:=by rw [hG',off_bit,bit_bit,decide_eq_true rfl,Bool.not_true,Bool.and_false]
  have bn:=bit_pos need.length
  have bn24:=bit_24 (show need.length<=24 by omega)
  have bK:=bit_pos K
  have bK24:=bit_24 (show K<=24 by omega)
  refine ⟨by omega,⟨⟨by omega,by omega⟩,by simp only [Z.in64];omega⟩,by omega,⟨⟨by omega,by omega⟩,by simp only [Z.in64];omega⟩,⟨t0,by omega⟩,⟨by omega,by omega⟩,?_⟩
  refine ⟨fun s=>∃ m:Nat,s.2=(m:Int)∧m<=need.length∧s.1=offN (fun m=>G.toNat.testBit m) gv (gv K) m,fun s=>((need.length:Int) - s.2).toNat,⟨0,rfl,by omega,rfl⟩,?_⟩
  rintro ⟨can,_⟩ ⟨m,rfl,hm,hcan⟩
  dsimp only at hcan ⊢
  have can0:0<=can:=by rw [hcan];exact (offN_bit _ _ _ (hCards.gv K hKn).1 m).1
  refine ⟨fun hd=>?_,fun hd=>?_⟩
  ·have hd:(m:Int)<(need.length:Int):=of_decide_eq_true hd
   have hmn:m<need.length:=by omega
   have hms:((need.length:Int) - ((m:Int)+1)).toNat<((need.length:Int) - (m:Int)).toNat:=by omega
   rw [has_div g0 (show (0:Int)<=(m:Int) by omega)]
   have eh:hasB G (m:Int)=G.toNat.testBit m:=by unfold hasB;rw [Int.toNat_natCast]
   have esucc:offN (fun m=>G.toNat.testBit m) gv (gv K) (m+1)=cond (G.toNat.testBit m) (offZ (offN (fun m=>G.toNat.testBit m) gv (gv K) m) (gv m)) (offN (fun m=>G.toNat.testBit m) gv (gv K) m):=zdl ..
   rw [eh]
   refine ⟨⟨by omega,by omega⟩,⟨?_,by decide⟩,fun hv=>?_,fun hv=>?_⟩
   ·rw [Int.fdiv_eq_ediv_of_nonneg _ (Int.le_of_lt (Int.pow_pos (by decide)))]
    exact Int.ediv_nonneg g0 (Int.le_of_lt (Int.pow_pos (by decide)))
   ·rw [Int.toNat_natCast,gat m hmn]
    refine ⟨⟨by omega,by omega⟩,⟨can0,(hCards.gv m hmn).1⟩,by simp only [Z.in64];omega,trivial,trivial,⟨m+1,rfl,hmn,?_⟩,hms⟩
    show offZ can (gv m)=_
    rw [esucc,hv,cond_true,<-hcan]
   ·refine ⟨by simp only [Z.in64];omega,trivial,trivial,⟨m+1,rfl,hmn,?_⟩,hms⟩
    show can=_
    rw [esucc,hv,cond_false,<-hcan]
  ·have hd:¬ (m:Int)<(need.length:Int):=of_decide_eq_false hd
   have:m=need.length:=by omega
   subst this
   refine ⟨fun s=>∃ m:Nat,s.2=(m:Int)∧m<=need.length∧s.1=orN (backQ gv sd can K) (fun m=>bitZ (l.length+m)) m,fun s=>((need.length:Int) - s.2).toNat,⟨0,rfl,by omega,rfl⟩,?_⟩
   rintro ⟨back,_⟩ ⟨m,rfl,hm,hbk⟩
   dsimp only at hbk ⊢
   have back0:0<=back:=by rw [hbk];exact (orN_bit _ _ m).1
   refine ⟨fun hd=>?_,fun hd=>?_⟩
   ·have hd:(m:Int)<(need.length:Int):=of_decide_eq_true hd
    have hmn:m<need.length:=by omega
    have hms:((need.length:Int) - ((m:Int)+1)).toNat<((need.length:Int) - (m:Int)).toNat:=by omega
    obtain ⟨s0,s1⟩:=hCards.sd m hmn
    have bm:=bit_pos (l.length+m)
    have bm24:=bit_24 (show l.length+m<=24 by omega)
    rw [Int.toNat_natCast,gat m hmn,sat m,show (l.length:Int)+(m:Int)=((l.length+m:Nat):Int) by omega,Int.toNat_natCast]
    have eq:(decide (0<sd m)&&(!((((gv m).toNat &&& can.toNat:Nat):Int)==0)||((m:Int)==(K:Int))))=backQ gv sd can K m:=by
     show _=(decide (0<sd m)&&((!(andZ (gv m) can==0))||decide (m=K)))
     have:((m:Int)==(K:Int))=decide (m=K):=by
      rw [Bool.eq_iff_iff,beq_iff_eq,decide_eq_true_eq];omega
     rw [this];rfl
    rw [eq]
    have esucc:orN (backQ gv sd can K) (fun m=>bitZ (l.length+m)) (m+1)=cond (backQ gv sd can K m) (orZ (orN (backQ gv sd can K) (fun m=>bitZ (l.length+m)) m) (bitZ (l.length+m))) (orN (backQ gv sd can K) (fun m=>bitZ (l.length+m)) m):=zdl ..
    refine ⟨⟨by omega,hd⟩,by simp only [Z.in64];omega,fun _=>⟨by omega,by omega⟩,fun _=>⟨(hCards.gv m hmn).1,can0⟩,fun hv=>⟨by simp only [Z.in64];omega,⟨⟨by omega,by omega⟩,by simp only [Z.in64];omega⟩,⟨back0,by omega⟩,by simp only [Z.in64];omega,trivial,trivial,⟨m+1,rfl,hmn,?_⟩,hms⟩,fun hv=>⟨by simp only [Z.in64];omega,trivial,trivial,⟨m+1,rfl,hmn,?_⟩,hms⟩⟩
    ·show orZ back (bitZ (l.length+m))=_
     rw [esucc,hv,cond_true,<-hbk]
    ·show back=_
     rw [esucc,hv,cond_false,<-hbk]
   ·have hd:¬ (m:Int)<(need.length:Int):=of_decide_eq_false hd
    have:m=need.length:=by omega
    subst this
    have hback:=hCards.back hKn
    have hblame:=hCards.blame hKn g0 g1 gk
    rw [<-hcan] at hblame
    obtain ⟨pen,hrec,pen1,pen2⟩:=hCards.recall hKn g0 g1 gk hcan
    rw [<-hbk] at hrec
    simp only [hback,hblame,hrec]
    have hCl:=hCards.len
    have hTwo:=hCards.two
    have hbig:C.length<=big:=by simp only [big];omega
    have bp:=bit_pos (l.length+K)
    have bp24:=bit_24 (show l.length+K<=24 by omega)
    have hi1:Z.in64 ((l.length+K:Nat):Int):=by simp only [Z.in64];omega
    have h105:((0:Int)<=((l.length+K:Nat):Int)∧((l.length+K:Nat):Int)<64)∧Z.in64 (bitZ (l.length+K)):=⟨⟨by omega,by omega⟩,by simp only [Z.in64];omega⟩
    have h107:((0:Int)<=(l.length:Int)∧(l.length:Int)<64)∧Z.in64 (G*2^l.length):=by
     refine ⟨⟨by omega,by omega⟩,?_⟩
     have e2:(2:Int)^l.length=bitZ l.length:=by rw [<-one_shl,Int.one_mul]
     have b8:=bit_le (show l.length<=8 by omega)
     have n8':=bit_le (show need.length<=8 by omega)
     have e8:bitZ 8=256:=by decide
     have bl:=bit_pos l.length
     obtain ⟨q0,q1⟩:=mul_bd (a:=G) (b:=bitZ l.length) (A:=256) (B:=256) ⟨g0,by omega⟩ ⟨by omega,by omega⟩
     rw [e2]
     simp only [Z.in64];omega
    obtain ⟨s0,s1⟩:=hCards.sd K hKn
    have gvK:=(hCards.gv K hKn).1
    have r0:(orZ (gv K) (bitZ (l.length+K))==(((gv K).toNat ||| (bitZ (l.length+K)).toNat:Nat):Int))=true:=by simp [orZ]
    have r1:(orZ can (bitZ (l.length+K))==((can.toNat ||| (bitZ (l.length+K)).toNat:Nat):Int))=true:=by simp [orZ]
    have r2:(back==back)=true:=by simp
    have z0:((0:Int)==0)=true:=rfl
    have r3:(pen.1==sd K)=true:=by rw [pen1];simp
    have r4:decide (pen.1<=pen.2)=true:=decide_eq_true pen2
    refine ⟨hi1,⟨hbig,hTwo⟩,hi1,h105,h107,⟨hbig,hTwo⟩,hi1,h105,h107,⟨hbig,hTwo⟩,fun _=>⟨by omega,by omega⟩,fun _=>hi1,fun _=>h105,fun _=>⟨gvK,by omega⟩,fun _=>hi1,fun _=>h105,fun _=>⟨can0,by omega⟩,fun hv=>?_,fun _=>⟨⟨by omega,by omega⟩,by simp only [Z.in64];omega,fun _=>trivial,?_⟩⟩
    ·rw [r0,r1,r2] at hv
     cases hv
    ·rw [r3,r4];rfl
end Go.Td
