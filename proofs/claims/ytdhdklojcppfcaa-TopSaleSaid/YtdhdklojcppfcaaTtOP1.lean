/-
  Chapter 10: conditions of small functions, proved.
-/
import Derived.Test.YtdhdklojcppfcaaTtOAuto
import Derived.Test.YtdhdklojcppfcaaTtMix
set_option linter.all false
set_option maxRecDepth 100000
set_option linter.unusedVariables false
open Bool renaming and_assoc->ydI,and_eq_true->yac,not_and->ydJ,or_assoc->ydK
open Int renaming eq_ofNat_of_zero_le->ydF,fdiv_eq_ediv_of_nonneg->yaS,le_of_lt->yaT,one_mul->ydv,pow_pos->yaR,toNat->yby,toNat_natCast->ydw
open List renaming cons_append->yaC,length_cons->ybT
open Nat renaming pow_le_pow_right->ydH,pow_succ->ydG
namespace Go.Tt
open Go Go.Sx
theorem tabs_ok:TabsOk Go.Proofs.Try.prog T:=⟨by kernel_rfl,maps_ok⟩
theorem zek {x:Supply}:supplyB x=true↔(0<=x.1/\x.1<=255)/\(0<=x.2.1.1/\x.2.1.1<=x.2.1.2/\x.2.1.2<=topN)/\0<=x.2.2.1/\x.2.2.1<=x.2.2.2/\x.2.2.2<=topN:=by
 simp only [supplyB,yac,inB_iff,zmR]
theorem zgi {o:Order}:orderB o=true↔(0<=o.1/\o.1<=7)/\(0<=o.2.1/\o.2.1<=topN)/\(0<=o.2.2.1/\o.2.2.1<=topN)/\0<=o.2.2.2/\o.2.2.2<=1000000:=by
 simp only [orderB,yac,inB_iff]
structure SaleOk (s:Sale):Prop where
 s8:s.1.length<=8
 o8:s.2.length<=8
 sup:∀ x∈s.1,supplyB x=true
 ord:∀ o∈s.2,orderB o=true
theorem zdQ {s:Sale}:saleB s=true↔SaleOk s:=by
 simp only [saleB,yac,decide_eq_true_eq,List.all_eq_true]
 exact ⟨fun ⟨⟨h1,h2⟩,h3,h4⟩=>⟨by omega,by omega,h3,h4⟩,fun h=>⟨⟨by have:=h.1;omega,by have:=h.2;omega⟩,h.3,h.4⟩⟩
theorem has_div {s n:Int} (hs:0<=s) (hn:0<=n):((((yby (Int.fdiv s (2^(yby n)))) &&& (yby (1)):Nat):Int)==1)=hasB s n:=by
 obtain ⟨m,rfl⟩:=ydF hs
 obtain ⟨k,rfl⟩:=ydF hn
 have e:Int.fdiv (m:Int) (2^(yby (k:Int)))=((m / 2^k:Nat):Int):=by
  rw [yaS _ (yaT (yaR (by decide)))]
  simp
 rw [e]
 simp only [hasB,ydw,Nat.testBit_eq_decide_div_mod_eq]
 have:yby 1=1:=rfl
 rw [this,Nat.and_one_is_mod]
 rw [Bool.eq_iff_iff]
 simp only [beq_iff_eq,decide_eq_true_eq]
 omega
theorem zcF {α β:Type} (f:α->β) (l:List α) (d:α) (i:Int) (h0:0<=i) (h:i<(l.length:Int)):(l.take (i+1).toNat).map f=(l.take i.toNat).map f++[f (l.getD i.toNat d)]:=by
 have e:(i+1).toNat=i.toNat+1:=by omega
 have h':i.toNat<l.length:=by omega
 rw [e,List.take_succ_eq_append_getElem h',List.map_append]
 simp [List.getD,h']
theorem setN_lt:∀ l:List Bool,setN l<2^l.length
 | []=>by simp [setN]
 | b::l=>by
  have:=setN_lt l
  simp only [setN,ybT,ydG]
  cases b<;>simp only [bitN,cond_true,cond_false]<;>omega
theorem zhM (b:Bool):∀ l:List Bool,setN (l++[b])=setN l+bitN b*2^l.length
 | []=>by simp [setN]
 | a::l=>by
  simp only [yaC,setN,zhM b l,ybT,ydG]
  have:2*(bitN b*2^l.length)=bitN b*(2^l.length*2):=by rw [Nat.mul_comm (2^l.length) 2,Nat.mul_left_comm]
  omega
theorem setN_or (l:List Bool):setN l ||| 2^l.length=setN (l++[true]):=by
 rw [zhM,Nat.or_comm]
 have:=Nat.two_pow_add_eq_or_of_lt (setN_lt l) 1
 rw [Nat.mul_one] at this
 rw [<-this]
 simp only [bitN,cond_true]
 omega
theorem zmU:∀ (l:List Bool) (k:Nat),(setN l).testBit k=l.getD k false
 | [],k=>by simp [setN]
 | b::l,0=>by
  rw [Nat.testBit_zero]
  cases b<;>simp [setN,bitN]<;>omega
 | b::l,k+1=>by
  rw [Nat.testBit_succ]
  have:setN (b::l) / 2=setN l:=by
   simp only [setN];cases b<;>simp only [bitN,cond_true,cond_false]<;>omega
  rw [this,zmU l k]
  simp
theorem ziI (l:List Bool) (k:Nat):hasB (setOf l) (k:Nat)=l.getD k false:=by
 simp only [hasB,setOf,ydw];exact zmU l k
theorem zfH {l:List Bool} (h:l.length<=8):smallSet (setOf l):=by
 have h1:=setN_lt l
 have h2:2^l.length<=2^8:=ydH (by decide) h
 simp only [smallSet,setOf]
 omega
theorem pow_int (k:Int):(2^k.toNat:Int)=((2^k.toNat:Nat):Int):=by simp
theorem shl_ok {k:Int} (h0:0<=k) (h8:k<62):((0:Int)<=k/\k<64)/\Z.in64 (1*2^k.toNat):=by
 refine ⟨⟨h0,by omega⟩,?_⟩
 have:(2:Nat)^k.toNat<=2^62:=ydH (by decide) (by omega)
 simp only [Z.in64]
 rw [ydv,pow_int]
 generalize 2^k.toNat=m at *
 omega
theorem pow_nn (k:Int):(0:Int)<=1*2^k.toNat:=by
 rw [ydv,pow_int]
 exact Int.natCast_nonneg _
theorem zkp (p:Nat->Bool) (a:Int):∀ (l:List Int) (k:Nat),selS p (l++[a]) k=selS p l k+cond (p (k+l.length)) a 0
 | [],k=>by simp [selS]
 | b::l,k=>by
  simp only [yaC,selS,zkp p a l (k+1),ybT]
  have:k+1+l.length=k+(l.length+1):=by omega
  rw [this];omega
theorem zjy {p q:Nat->Bool}:∀ {l:List Int} {k:Nat},(∀ i,i<l.length->p (k+i)=q (k+i))->selS p l k=selS q l k
 | [],k,_=>rfl
 | a::l,k,h=>by
  have h0:=h 0 (by simp)
  rw [Nat.add_zero] at h0
  have ih:=zjy (p:=p) (q:=q) (l:=l) (k:=k+1) fun i hi=>by
   have:=h (i+1) (by simp;omega)
   rwa [show k+(i+1)=k+1+i from by omega] at this
  simp only [selS,ih,h0]
theorem selS_bd {p:Nat->Bool}:∀ {l:List Int} {k:Nat},(∀ a∈l,amount a)->0<=selS p l k/\selS p l k<=topN*(l.length:Int)
 | [],k,_=>by simp [selS]
 | a::l,k,h=>by
  have:=selS_bd (p:=p) (l:=l) (k:=k+1) fun b hb=>h b (List.mem_cons_of_mem _ hb)
  have ha:=h a List.mem_cons_self
  simp only [amount,topN] at ha this ⊢
  simp only [selS,ybT]
  cases p k<;>simp only [cond_true,cond_false]<;>omega
theorem zpD {α:Type} (l:List α) (d:α) (p:Fun Int Bool) (f:Fun α Int) (hl:l.length<=8) (hp:∀ k:Int,0<=k->k<8->p.pre k) (hf:∀ a∈l,f.pre a/\amount (f.val a)) :
  Z.LoopP (X:=(Prod Int Int)) ((0,0)) (fun s0 K0=>(((decide ((s0.2:Int)<(l.length:Int))=true)->(((0:Int)<=s0.2/\(s0.2:Int)<(l.length:Int))/\((p.pre s0.2)/\((((p.val s0.2)=true)->((f.pre (l.getD (yby s0.2) d))/\(Z.in64 (s0.1+(f.val (l.getD (yby s0.2) d)))/\(Z.in64 (s0.2+1)/\(K0 ((s0.1+(f.val (l.getD (yby s0.2) d))),(s0.2+1)))))))/\(((p.val s0.2)=false)->(Z.in64 (s0.2+1)/\(K0 (s0.1,(s0.2+1)))))))))/\((decide ((s0.2:Int)<(l.length:Int))=false)->((s0.1:Int)=selS (fun k=>p.val (k:Nat)) (l.map f.val) 0)))):=by
 refine ⟨fun s=>0<=s.2/\s.2<=(l.length:Int)/\s.1=selS (fun k=>p.val (k:Nat)) ((l.take s.2.toNat).map f.val) 0,fun s=>((l.length:Int) - s.2).toNat,⟨by simp,by simp,rfl⟩,?_⟩
 rintro ⟨a,s⟩ ⟨h1,h2,h3⟩
 simp only at h1 h2 h3 ⊢
 refine ⟨fun h=>?_,fun h=>?_⟩
 ·have h:=of_decide_eq_true h
  obtain ⟨g1,g2⟩:=hf _ (zbx l d s h1 h)
  have e:=zcF f.val l d s h1 h
  have e2:selS (fun k=>p.val (k:Nat)) ((l.take (s+1).toNat).map f.val) 0=a+cond (p.val s) (f.val (l.getD s.toNat d)) 0:=by
   rw [e,zkp,<-h3]
   have:(0+((l.take s.toNat).map f.val).length:Nat)=s.toNat:=by simp;omega
   rw [this]
   have:((s.toNat:Nat):Int)=s:=by omega
   simp only [this]
  have hb:0<=a/\a<=topN*8:=by
   rw [h3]
   have:=selS_bd (p:=fun k=>p.val (k:Nat)) (l:=(l.take s.toNat).map f.val) (k:=0) fun b hb=>by
    obtain ⟨c,hc,rfl⟩:=List.mem_map.1 hb
    exact (hf c (List.mem_of_mem_take hc)).2
   have h8:(((l.take s.toNat).map f.val).length:Int)<=8:=by
    rw [List.length_map,List.length_take];omega
   simp only [topN] at this ⊢
   omega
  simp only [amount,topN] at g2 hb
  refine ⟨⟨h1,h⟩,hp s h1 (by omega),fun hv=>⟨g1,?_,?_,⟨?_,?_,?_⟩,?_⟩,fun hv=>⟨?_,⟨?_,?_,?_⟩,?_⟩⟩
  ·simp only [Z.in64];omega
  ·simp only [Z.in64];omega
  ·show 0<=s+1;omega
  ·show s+1<=_;omega
  ·rw [e2,hv];rfl
  ·omega
  ·simp only [Z.in64];omega
  ·show 0<=s+1;omega
  ·show s+1<=_;omega
  ·rw [e2,hv];simp
  ·omega
 ·have h:=of_decide_eq_false h
  rw [h3,List.take_of_length_le (by omega)]
theorem v163 (x:(List Int) × Fun Int Bool × Fun Int Int) (h:k163.pre x):V163 x:=zpD x.1 0 x.2.1 x.2.2 h.1 h.2.1 h.2.2
theorem v155 (x:Int × Int × Int) (_:k155.pre x):V155 x:=rfl
theorem v156 (x:Span × Int × Int) (_:k156.pre x):V156 x:=by
 show (_:Bool)=_
 simp only [zbY,spanB,ydI]
theorem v154 (x:Supply) (_:k154.pre x):V154 x:=by
 refine ⟨trivial,fun _=>trivial,fun _=>trivial,?_⟩
 show (_:Bool)=_
 simp only [zbQ,supplyB,zaz,zbY,topN,ydJ,ydK]
theorem v157 (x:Order) (_:k157.pre x):V157 x:=by
 refine ⟨trivial,fun _=>trivial,fun _=>trivial,fun _=>trivial,?_⟩
 show (_:Bool)=_
 simp only [zcp,orderB,zaz,topN,ydJ,ydK]
theorem v193 (x:(List Supply) × Fun Supply Bool) (h:k193.pre x):V193 x:=zhQ x.1 (0,(0,0),0,0) x.2 h.1 h.2
theorem v158 (x:(List Supply) × Fun Supply Bool) (h:k158.pre x):V158 x:=⟨h,any_ix _ _⟩
theorem v194 (x:(List Order) × Fun Order Bool) (h:k194.pre x):V194 x:=zhQ x.1 (0,0,0,0) x.2 h.1 h.2
theorem v159 (x:(List Order) × Fun Order Bool) (h:k159.pre x):V159 x:=⟨h,any_ix _ _⟩
theorem v100 (x:Sale) (_:k100.pre x):V100 x:=by
 have hl:(decide ((x.1.length:Int)<=8)&&decide ((x.2.length:Int)<=8))=true->x.1.length<=big/\x.2.length<=big:=by
  intro h
  simp only [yac,decide_eq_true_eq] at h
  simp only [big];omega
 refine ⟨fun h=>⟨(hl h).1,fun _ _=>trivial⟩,fun h=>⟨?_,fun _ _=>trivial⟩,?_⟩
 ·rw [yac] at h
  exact (hl h.1).2
 ·show ((decide ((x.1.length:Int)<=8)&&decide ((x.2.length:Int)<=8)&&!(x.1.any fun a=>!supplyB a))&&!(x.2.any fun a=>!orderB a))=saleB x
  rw [any_not,any_not,saleB,ydI]
theorem v251 (x:Unit × Supply) (_:k251.pre x):V251 x:=rfl
theorem v252 (x:Unit × Supply) (_:k252.pre x):V252 x:=rfl
theorem v253 (x:Unit × Supply) (_:k253.pre x):V253 x:=rfl
theorem v254 (x:Unit × Supply) (_:k254.pre x):V254 x:=rfl
theorem v164 (x:Int) (_:k164.pre x):V164 x:=rfl
theorem v165 (x:Int × (Int->Option Bool)) (_:k165.pre x):V165 x:=rfl
theorem v102 (x:Int × Int) (h:k102.pre x):V102 x:=by
 obtain ⟨h1,h2,h3⟩:=h
 refine ⟨⟨h2,h3⟩,⟨?_,by decide⟩,has_div h1 h2⟩
 rw [yaS _ (yaT (yaR (by decide)))]
 exact Int.ediv_nonneg h1 (yaT (yaR (by decide)))
end Go.Tt
