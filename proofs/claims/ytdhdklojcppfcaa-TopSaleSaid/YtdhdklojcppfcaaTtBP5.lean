/-
  Box: Fill.
-/
import Derived.Test.YtdhdklojcppfcaaTtBP4
set_option linter.all false
set_option maxRecDepth 100000
set_option maxHeartbeats 4000000
set_option linter.unusedVariables false
open Int renaming le_refl->ydz,toNat_natCast->ydw
open List renaming foldl_append->yef,getD->yda,length_drop->ybJ,length_set->ybV,range_succ->yee
namespace Go.Tt
open Go Go.Sx
theorem mem_set {α:Type} {P:α->Prop} {l:List α} (h:∀ a∈l,P a) (i:Nat) {b:α} (hb:P b):∀ a∈l.set i b,P a:=by
 intro a ha
 rcases List.mem_or_eq_of_mem_set ha with h1 | h1
 ·exact h a h1
 ·rw [h1];exact hb
theorem ziJ {α:Type} (l:List α) (d b:α) (i:Nat) (h:i<l.length):(l.set i b).getD i d=b:=by
 simp [yda,h]
theorem v86 (x:Int × (List Int) × Int × List Pile) (h:k86.pre x):V86 x:=by
 obtain ⟨hb,⟨k0,k1⟩,hr,n0,n1⟩:BoxOk x.2.1 x.2.2.2/\(0<=x.2.2.1/\x.2.2.1<(x.2.1.length:Int))/\1<=x.2.2.2.length/\0<=x.1/\x.1<=(x.2.2.2.getD 0 noP).2:=h
 have hm:=hb.pile _ (zan x.2.2.2 noP 0 (by omega))
 have ha:=hm.2
 simp only [amount,topN] at ha
 have hz:(0:Int)<((zac x.2.2.2).length:Int):=by show (0:Int)<(x.2.2.2.length:Int);omega
 refine ⟨by show x.2.1.length<=1000;have:=hb.n8;omega,⟨k0,k1⟩,by show x.2.2.2.length<=big;have:=hb.l8;simp only [big];omega,⟨ydz _,hz⟩,?_,⟨ydz _,hz⟩,?_,rfl⟩
 ·show Z.in64 ((x.2.2.2.getD 0 noP).2 - x.1)
  simp only [Z.in64];omega
 ·show BoxOk (x.2.1.set x.2.2.1.toNat 0) (x.2.2.2.set 0 ((x.2.2.2.getD 0 noP).1,(x.2.2.2.getD 0 noP).2 - x.1))
  exact ⟨by rw [ybV];exact hb.n8,by rw [ybV];exact hb.l8,mem_set hb.need _ ⟨by decide,by decide⟩,mem_set hb.pile _ ⟨hm.1,by simp only [amount,topN];omega⟩⟩
theorem off_has {s k:Int} {j:Nat} (h:hasB (offS s k) (j:Nat)=true):hasB s (j:Nat)=true:=by
 simp only [hasB,offS,ydw,Nat.testBit_xor,Nat.testBit_and] at h ⊢
 cases hs:s.toNat.testBit j with
 | true=>rfl
 | false=>rw [hs] at h;simp at h
theorem zlJ {s k:Int} (h:smallSet s):smallSet (offS s k):=by
 have h1:s.toNat<2^8:=by have:=h.1;have:=h.2;omega
 have h2:=Nat.xor_lt_two_pow h1 (Nat.lt_of_le_of_lt (Nat.and_le_left (n:=s.toNat) (m:=(1*2^k.toNat:Int).toNat)) h1)
 refine ⟨Int.natCast_nonneg _,?_⟩
 simp only [offS]
 omega
structure FillOk (n:Nat) (own:Int) (s:FillS):Prop where
 d8:s.1.length=8
 dr:∀ r∈s.1,r.length=8
 ln:s.2.1.length=n
 lb:∀ a∈s.2.1,0<=a/\a<=most40
 r1:1<=s.2.2.length
 r8:s.2.2.length<=8
 rp:∀ p∈s.2.2,smallSet p.1/\amount p.2
 hs:∀ k:Nat,hasB (s.2.2.getD 0 noP).1 (k:Nat)=true->hasB own (k:Nat)=true
def SoldOk (l:List Pile) (g:List (List Int)):Prop:=∀ j k:Nat,0<getG g (j:Nat) (k:Nat)->hasB (l.getD j noP).1 (k:Nat)=true
section
variable {n:Nat} {own:Int} {s:FillS}
theorem FillOk.off (h:FillOk n own s) (k:Int):(offP' k s.2.2).length=s.2.2.length/\(∀ p∈offP' k s.2.2,smallSet p.1/\amount p.2)/\(offP' k s.2.2).getD 0 noP=(offS (s.2.2.getD 0 noP).1 k,(s.2.2.getD 0 noP).2):=by
 have hm:=h.rp _ (zan s.2.2 noP 0 (by have:=h.r1;omega))
 refine ⟨ybV ..,mem_set h.rp _ ⟨zlJ hm.1,hm.2⟩,?_⟩
 exact ziJ s.2.2 noP _ 0 (by have:=h.r1;omega)
theorem FillOk.num (h:FillOk n own s) (hn:n<=8) {k:Nat} (hk:k<n):zby (min ((offP' (k:Nat) s.2.2).getD 0 noP).2 (s.2.1.getD k 0),ownF s.2.1 (k:Nat) (offP' (k:Nat) s.2.2))/\0<=numF s.2.1 (k:Nat) (offP' (k:Nat) s.2.2)/\numF s.2.1 (k:Nat) (offP' (k:Nat) s.2.2)<=(s.2.2.getD 0 noP).2/\numF s.2.1 (k:Nat) (offP' (k:Nat) s.2.2)<=s.2.1.getD k 0:=by
 obtain ⟨h1,h2,h3⟩:=h.off (k:Nat)
 have hm:=(h.rp _ (zan s.2.2 noP 0 (by have:=h.r1;omega))).2
 simp only [amount,topN] at hm
 have hl:=h.lb _ (zan s.2.1 0 k (by rw [h.ln];exact hk))
 have h32:((offP' (k:Nat) s.2.2).getD 0 noP).2=(s.2.2.getD 0 noP).2:=by rw [h3]
 have hmin:0<=min ((offP' (k:Nat) s.2.2).getD 0 noP).2 (s.2.1.getD k 0):=by rw [h32];omega
 have hg:=(zgU (n:=min ((offP' (k:Nat) s.2.2).getD 0 noP).2 (s.2.1.getD k 0)) hmin (ownF s.2.1 (k:Nat) (offP' (k:Nat) s.2.2)).val).1
 have e:numF s.2.1 (k:Nat) (offP' (k:Nat) s.2.2)=greatV (min ((offP' (k:Nat) s.2.2).getD 0 noP).2 (s.2.1.getD k 0)) (ownF s.2.1 (k:Nat) (offP' (k:Nat) s.2.2)).val:=rfl
 rw [<-e] at hg
 refine ⟨⟨⟨hmin,?_⟩,fun i i1 i2=>⟨⟨by rw [h.ln];exact hn,by rw [h1];exact h.r8,h.lb,h2⟩,⟨by show (0:Int)<=((k:Nat):Int);omega,by show ((k:Nat):Int)<(s.2.1.length:Int);rw [h.ln];omega⟩,by show 1<=(offP' (k:Nat) s.2.2).length;rw [h1];exact h.r1,by show (0:Int)<=i;omega,?_⟩⟩,hg.1,?_,?_⟩
 ·show min ((offP' (k:Nat) s.2.2).getD 0 noP).2 (s.2.1.getD k 0)<=most40
  rw [h32];simp only [most40] at *;omega
 ·have i2:i<=min ((offP' (k:Nat) s.2.2).getD 0 noP).2 (s.2.1.getD k 0):=i2
  show i<=((offP' (k:Nat) s.2.2).getD 0 noP).2
  omega
 ·rw [h32] at hg;omega
 ·rw [h32] at hg;omega
theorem FillOk.step (h:FillOk n own s) (hn:n<=8) {i k:Nat} (hi:i<8) (hk:k<n):FillOk n own (fillStep (i:Nat) (k:Nat) s):=by
 unfold fillStep
 cases hh:hasB (s.2.2.getD (Int.toNat 0) noP).1 (k:Nat) with
 | false=>exact h
 | true =>
  obtain ⟨h1,h2,h3⟩:=h.off (k:Nat)
  obtain ⟨_,g0,g1,g2⟩:=h.num hn hk
  have hl:=h.lb _ (zan s.2.1 0 k (by rw [h.ln];exact hk))
  have hm:=(h.rp _ (zan s.2.2 noP 0 (by have:=h.r1;omega)))
  have hm2:=hm.2
  simp only [amount,topN] at hm2
  simp only [cond_true,fillTo]
  generalize hN:numF s.2.1 (k:Nat) (offP' (k:Nat) s.2.2)=N at g0 g1 g2
  obtain ⟨e1,e2⟩:=zfb h.d8 h.dr hi (k:=k) N
  refine ⟨e1,e2,?_,?_,?_,?_,?_,?_⟩
  ·show (s.2.1.set _ _).length=n
   rw [ybV];exact h.ln
  ·refine mem_set h.lb _ ?_
   show 0<=s.2.1.getD k 0 - N/\s.2.1.getD k 0 - N<=most40
   omega
  ·show 1<=((offP' (k:Nat) s.2.2).set _ _).length
   rw [ybV,h1];exact h.r1
  ·show ((offP' (k:Nat) s.2.2).set _ _).length<=8
   rw [ybV,h1];exact h.r8
  ·refine mem_set h2 _ ?_
   show smallSet ((offP' (k:Nat) s.2.2).getD 0 noP).1/\amount (((offP' (k:Nat) s.2.2).getD 0 noP).2 - N)
   rw [h3]
   refine ⟨zlJ hm.1,?_⟩
   simp only [amount,topN];omega
  ·intro j hj
   have e:(takeP N (offP' (k:Nat) s.2.2)).getD 0 noP=(((offP' (k:Nat) s.2.2).getD 0 noP).1,((offP' (k:Nat) s.2.2).getD 0 noP).2 - N):=ziJ _ noP _ 0 (by rw [h1];have:=h.r1;omega)
   have hj:hasB ((takeP N (offP' (k:Nat) s.2.2)).getD 0 noP).1 (j:Nat)=true:=hj
   rw [e,h3] at hj
   exact h.hs j (off_has hj)
theorem FillOk.sold {l:List Pile} (h:FillOk n own s) (hn:n<=8) {i k:Nat} (hi:i<8) (hk:k<n) (ho:own=(l.getD i noP).1) (hS:SoldOk l s.1):SoldOk l (fillStep (i:Nat) (k:Nat) s).1:=by
 unfold fillStep
 cases hh:hasB (s.2.2.getD (Int.toNat 0) noP).1 (k:Nat) with
 | false=>exact hS
 | true =>
  intro j m hp
  have hp:0<getG (setG s.1 (i:Nat) (k:Nat) (numF s.2.1 (k:Nat) (offP' (k:Nat) s.2.2))) (j:Nat) (m:Nat):=hp
  rw [zeN h.d8 h.dr hi (by omega)] at hp
  by_cases e:j=i/\m=k
  ·obtain ⟨rfl,rfl⟩:=e
   rw [<-ho]
   exact h.hs m hh
  ·rw [if_neg e] at hp
   exact hS j m hp
theorem zmZ (i:Int) (k:Nat) (s:FillS):fillRow i (k+1) s=fillStep i (k:Nat) (fillRow i k s):=by
 rw [fillRow,yee,yef];rfl
theorem FillOk.row {l:List Pile} (h:FillOk n own s) (hn:n<=8) {i:Nat} (hi:i<8) (ho:own=(l.getD i noP).1) (hS:SoldOk l s.1):∀ k,k<=n->FillOk n own (fillRow (i:Nat) k s)/\SoldOk l (fillRow (i:Nat) k s).1
 | 0,_=>⟨h,hS⟩
 | k+1,hk=>by
  obtain ⟨h1,h2⟩:=FillOk.row h hn hi ho hS k (by omega)
  rw [zmZ]
  exact ⟨h1.step hn hi (by omega),h1.sold hn hi (by omega) ho h2⟩
end
theorem zlF (need:List Int) (l:List Pile) (i:Nat) (s:(List (List Int)) × List Int):packV need l (i+1) s=((fillRow (i:Nat) need.length ((packV need l i s).1,(packV need l i s).2,l.drop i)).1,(fillRow (i:Nat) need.length ((packV need l i s).1,(packV need l i s).2,l.drop i)).2.1):=by
 rw [packV,yee,yef];rfl
structure PackOk (n:Nat) (l:List Pile) (s:(List (List Int)) × List Int):Prop where
 d8:s.1.length=8
 dr:∀ r∈s.1,r.length=8
 ln:s.2.length=n
 lb:∀ a∈s.2,0<=a/\a<=most40
 sold:SoldOk l s.1
theorem PackOk.fill {n:Nat} {l:List Pile} {s:(List (List Int)) × List Int} (h:PackOk n l s) (hl:l.length<=8) (hp:∀ p∈l,smallSet p.1/\amount p.2) {i:Nat} (hi:i<l.length):FillOk n (l.getD i noP).1 (s.1,s.2,l.drop i):=by
 refine ⟨h.d8,h.dr,h.ln,h.lb,?_,?_,fun p hm=>hp p (List.mem_of_mem_drop hm),fun k hk=>?_⟩
 ·show 1<=(l.drop i).length
  rw [ybJ];omega
 ·show (l.drop i).length<=8
  rw [ybJ];omega
 ·have e:(l.drop i).getD 0 noP=l.getD i noP:=by simp [yda]
  have hk:hasB ((l.drop i).getD 0 noP).1 (k:Nat)=true:=hk
  rw [e] at hk;exact hk
theorem pack_ok {need:List Int} {l:List Pile} (hn:need.length<=8) (hl:l.length<=8) (hp:∀ p∈l,smallSet p.1/\amount p.2) {s:(List (List Int)) × List Int} (h:PackOk need.length l s):∀ i,i<=l.length->PackOk need.length l (packV need l i s)
 | 0,_=>h
 | i+1,hi=>by
  have h1:=pack_ok hn hl hp h i (by omega)
  obtain ⟨h2,h3⟩:=(h1.fill hl hp (i:=i) (by omega)).row hn (i:=i) (by omega) rfl h1.sold need.length (Nat.le_refl _)
  rw [zlF]
  exact ⟨h2.d8,h2.dr,h2.ln,h2.lb,h3⟩
theorem zoD (l:List Pile):sold0.length=8/\(∀ r∈sold0,r.length=8)/\SoldOk l sold0:=by
 refine ⟨rfl,by decide,fun j k h=>?_⟩
 have e:getG sold0 (j:Nat) (k:Nat)=0:=by
  simp only [getG,ydw]
  have hz:∀ m:Nat,zRow.getD m 0=0:=by
   intro m
   by_cases hm:m<8
   ·simp [yda,hm]
   ·simp [yda,hm]
  have h1:sold0.getD j zRow=zRow:=by
   by_cases hj:j<8
   ·simp [yda,hj]
   ·simp [yda,hj]
  rw [h1]
  exact hz k
 omega
theorem zob {need:List Int} {l:List Pile} (hb:BoxIs need l) {n:Int} (h0:0<=n) (h1:n<=8388609):PackOk need.length l (sold0,timesV need n):=by
 obtain ⟨e1,e2,e3⟩:=zoD l
 exact ⟨e1,e2,zej _ _,fun a ha=>by have:=zmN hb.nd h0 h1 a ha;simp only [most40];omega,e3⟩
end Go.Tt
