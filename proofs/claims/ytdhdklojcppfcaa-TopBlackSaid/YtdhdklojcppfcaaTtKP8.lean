/-
  TopBlack: the conditions of the law.
-/
import Derived.Test.YtdhdklojcppfcaaTtKP6
import Derived.Test.YtdhdklojcppfcaaTtSP3
set_option linter.all false
set_option maxRecDepth 100000
set_option maxHeartbeats 4000000
open Bool renaming and_true->ydY,or_eq_false_iff->ydM,or_eq_true->yaE
open Int renaming le_refl->ydy,mul_add->ydX,mul_assoc->ydT,mul_comm->ydU,mul_le_mul_of_nonneg_left->yaU,mul_le_mul_of_nonneg_right->yds,mul_nonneg->ydS,tmod->ydA
open Nat renaming le_refl->yag
namespace Go.Tt
open Go Go.Sx
theorem v12 (x:Unit) (_:k12.pre x):V12 x:=⟨trivial,trivial,by kernel_rfl⟩
theorem tmK {a b:Int} (h:0<=a) (hb:0<b):0<=ydA a b/\ydA a b<b:=⟨Int.tmod_nonneg _ h,Int.tmod_lt_of_pos _ hb⟩
theorem pick_bd {x:Span × Int × List Int} (h:zaK x):x.1.1<=zah x/\zah x<=x.1.2:=by
 obtain ⟨⟨⟨h1,h2⟩,h3⟩,h4,h5,h6⟩:=h
 have ht:=tmK (a:=x.2.1) (b:=(x.2.2.length:Int)) h4 (by omega)
 have hb:=h6 _ (zbv x.2.2 0 (ydA x.2.1 (x.2.2.length:Int)).toNat (by omega))
 have hw:=wrapI (n:=x.2.2.getD (ydA x.2.1 (x.2.2.length:Int)).toNat 0) ⟨by omega,by omega⟩
 have hm:=tmK (a:=x.2.2.getD (ydA x.2.1 (x.2.2.length:Int)).toNat 0) (b:=x.1.2 - x.1.1+1) hb.1 (by omega)
 rw [zah,hw]
 omega
theorem v16 (x:Span × Int × List Int) (hp:k16.pre x):V16 x:=by
 have h:zaK x:=hp
 have hb:=pick_bd h
 obtain ⟨⟨⟨h1,h2⟩,h3⟩,h4,h5,h6⟩:=h
 have ht:=tmK (a:=x.2.1) (b:=(x.2.2.length:Int)) h4 (by omega)
 refine ⟨by omega,ht,by simp only [Z.in64];omega,by simp only [Z.in64];omega,by omega,?_,rfl⟩
 show Z.in64 (zah x)
 simp only [Z.in64];omega
theorem zik {f:Nat->Int} (h:∀ i,0<=f i) (i:Nat):∀ d,sumN i f<=sumN (i+d) f
 | 0=>ydy _
 | d+1=>by
  have h1:=zik h i d
  have h2:=h (i+d)
  rw [<-Nat.add_assoc,zau]
  omega
def stK (x:BlackIn) (k:Nat):StaS:=(zah ((x.1.getD k zSa).1,3*(k:Int),x.2.2.2.2),zah ((x.1.getD k zSa).2.1,3*(k:Int)+1,x.2.2.2.2),zah ((x.1.getD k zSa).2.2,3*(k:Int)+2,x.2.2.2.2))
def nrK (x:BlackIn) (i:Nat):Nat:=(x.2.1.getD i zTa).1.toNat
def carK (x:BlackIn) (i:Nat):Int:=sumN i fun j=>mK x (j:Nat)*coalV (stK x (nrK x j))
def claK (x:BlackIn) (i:Nat):Int:=sumN i fun j=>mK x (j:Nat)*bakedV (stK x (nrK x j))
def topK (x:BlackIn) (i:Nat):Int:=sumN i fun j=>(x.2.1.getD j zTa).2.2
structure BlackIs (x:BlackIn):Prop where
 B:BatchIs x.1 x.2.1
 curve:curveB x.2.2.1=true
 by0:x.2.2.2.2.length≠0
 by1:∀ b∈x.2.2.2.2,(0:Int)<=b/\b<=4294967295
section
variable {x:BlackIn}
theorem zdk (h:BlackIs x) {s:Span} {a b n:Int} (hs:a<=s.1/\s.1<=s.2/\s.2<=b) (ha:0<=a) (hb:b<=1000000) (hn:0<=n):zaK (s,n,x.2.2.2.2):=by
 refine ⟨⟨⟨?_,hs.2.1⟩,?_⟩,hn,h.by0,h.by1⟩
 ·show 0<=s.1;omega
 ·show s.2<=1000000;omega
theorem st_in (h:BlackIs x) {k:Nat} (hk:k<x.1.length):InSack (x.1.getD k zSa) (stK x k):=by
 obtain ⟨h1,h2,h3⟩:=sack_of (h.B.sack _ (zbv x.1 zSa k hk))
 exact ⟨pick_bd (zdk h (n:=3*(k:Int)) h1 (by omega) (by omega) (by omega)),pick_bd (zdk h (n:=3*(k:Int)+1) h2 (by omega) (by omega) (by omega)),pick_bd (zdk h (n:=3*(k:Int)+2) h3 (by omega) (by omega) (by omega))⟩
theorem nr_lt (h:BlackIs x) {i:Nat} (hi:i<x.2.1.length):nrK x i<x.1.length/\(((nrK x i:Nat)):Int)=(x.2.1.getD i zTa).1:=by
 have:=(h.B.take _ (zbv x.2.1 zTa i hi)).1
 rw [nrK];omega
theorem m_in (h:BlackIs x):InTake x.2.1 fun i=>mK x (i:Nat):=fun i hi=>by
 have:=(h.B.take _ (zbv x.2.1 zTa i hi)).2
 exact pick_bd (zdk h (s:=(x.2.1.getD i zTa).2) (n:=5*(i:Int)+2) this (by omega) (by omega) (by omega))
theorem st_ok (h:BlackIs x) {i:Nat} (hi:i<x.2.1.length):StaOk (stK x (nrK x i)):=in_ok (h.B.sack _ (zbv x.1 zSa _ (nr_lt h hi).1)) (st_in h (nr_lt h hi).1)
theorem tot_bd (h:BlackIs x):∀ i,i<=x.2.1.length->0<=carK x i/\0<=claK x i/\carK x i+claK x i<=1000000000*topK x i
 | 0,_=>by simp [carK,claK,topK,zdU]
 | i+1,hi=>by
  obtain ⟨h1,h2,h3⟩:=tot_bd h i (by omega)
  have hs:=st_ok h (i:=i) (by omega)
  have hm:=m_in h i (by omega)
  have ht:=(h.B.take _ (zbv x.2.1 zTa i (by omega))).2
  have hc:=coal_bd hs
  have hb:=zgc hs
  have hl:=lead_bd hs
  have e1:carK x (i+1)=carK x i+mK x (i:Nat)*coalV (stK x (nrK x i)):=zau _ _
  have e2:claK x (i+1)=claK x i+mK x (i:Nat)*bakedV (stK x (nrK x i)):=zau _ _
  have e3:topK x (i+1)=topK x i+(x.2.1.getD i zTa).2.2:=zau _ _
  have hm:(x.2.1.getD i zTa).2.1<=mK x (i:Nat)/\mK x (i:Nat)<=(x.2.1.getD i zTa).2.2:=hm
  generalize mK x (i:Nat)=m at *
  have m1:=ydS (show 0<=m by omega) hc.1
  have m2:=ydS (show 0<=m by omega) hb.1
  have m3:m*coalV (stK x (nrK x i))+m*bakedV (stK x (nrK x i))=m*leadV (stK x (nrK x i)):=by rw [leadV,ydX]
  have m4:=mul_bd (A:=(x.2.1.getD i zTa).2.2) (B:=1000000000) (a:=m) ⟨by omega,hm.2⟩ hl
  rw [e1,e2,e3]
  omega
theorem zjX (n:Int):∀ i,(sumN i fun j=>mK x (j:Nat)*overV n (stK x (nrK x j)))=1000*carK x i - n*(carK x i+claK x i)
 | 0=>by simp [carK,claK,zdU]
 | i+1=>by
  have e1:carK x (i+1)=carK x i+mK x (i:Nat)*coalV (stK x (nrK x i)):=zau _ _
  have e2:claK x (i+1)=claK x i+mK x (i:Nat)*bakedV (stK x (nrK x i)):=zau _ _
  rw [zau,zjX n i,e1,e2,overV,leadV]
  generalize mK x (i:Nat)=m
  generalize coalV (stK x (nrK x i))=p
  generalize bakedV (stK x (nrK x i))=q
  grind
structure ToldK (x:BlackIn) (C L S:Span):Prop where
 g:gK x=((prt5 (x.1,x.2.1) 0,C,prt5 (x.1,x.2.1) 2,L,prt5 (x.1,x.2.1) 4),0)
 h:hK x=(S,0)
 c:C.1*1000000000<=carK x x.2.1.length/\carK x x.2.1.length<=C.2*1000000000
 l:L.1*1000000000<=claK x x.2.1.length/\claK x x.2.1.length<=L.2*1000000000
 cb:0<=C.1/\C.2<=10000000
 lb:0<=L.1/\L.2<=10000000
 s:0<=S.1/\S.1<=1000
 t:0<=S.2/\S.2<=1000
 sl:S.1*(carK x x.2.1.length+claK x x.2.1.length)<=carK x x.2.1.length*1000
 sh:carK x x.2.1.length*1000<=S.2*(carK x x.2.1.length+claK x x.2.1.length)
theorem told_is (h:BlackIs x) (hs:sacksB x.1=true) (hb:batchB x.1 x.2.1=true):∃ C L S,ToldK x C L S:=by
 have hst:∀ k,k<x.1.length->InSack (x.1.getD k zSa) (stK x k):=fun k hk=>st_in h hk
 have hm:=m_in h
 have hc:=sum_in h.B zkq hm hst
 have hl:=sum_in h.B zjj hm hst
 have hc0:=sum_nn h.B (f:=coalV) fun s hs=>(coal_bd hs).1
 have hl0:=sum_nn h.B (f:=bakedV) fun s hs=>(zgc hs).1
 have hc1:=sum_top h.B (f:=coalV) fun s hs=>coal_bd hs
 have hl1:=sum_top h.B (f:=bakedV) fun s hs=>zgc hs
 have ho:∀ n,(sumS (newK x.1 x.2.1) (overV n)).1<=1000*carK x x.2.1.length - n*(carK x x.2.1.length+claK x x.2.1.length)/\1000*carK x x.2.1.length - n*(carK x x.2.1.length+claK x x.2.1.length)<=(sumS (newK x.1 x.2.1) (overV n)).2:=fun n=>by
  have:=sum_in h.B (zmf n) hm hst
  rw [<-zjX n]
  exact this
 have tb:=tot_bd h x.2.1.length (yag _)
 have hg:gK x=((prt5 (x.1,x.2.1) 0,prt5 (x.1,x.2.1) 1,prt5 (x.1,x.2.1) 2,prt5 (x.1,x.2.1) 3,prt5 (x.1,x.2.1) 4),0):=by
  show zcd (x.1,x.2.1)=_
  rw [zcd]
  simp only [hs,hb,ydY,cond_true]
 have hh:hK x=((zaH (1001,lessF (newK x.1 x.2.1)) - 1,zaH (1000,mostG (newK x.1 x.2.1))),0):=by
  show zbp (x.1,x.2.1)=_
  rw [zbp]
  simp only [hs,hb,ydY,cond_true]
  rfl
 have p1:prt5 (x.1,x.2.1) 1=((sumS (newK x.1 x.2.1) coalV).1 / 1000000000,-(-(sumS (newK x.1 x.2.1) coalV).2 / 1000000000)):=rfl
 have p3:prt5 (x.1,x.2.1) 3=((sumS (newK x.1 x.2.1) bakedV).1 / 1000000000,-(-(sumS (newK x.1 x.2.1) bakedV).2 / 1000000000)):=rfl
 have hc:(sumS (newK x.1 x.2.1) coalV).1<=carK x x.2.1.length/\carK x x.2.1.length<=(sumS (newK x.1 x.2.1) coalV).2:=hc
 have hl:(sumS (newK x.1 x.2.1) bakedV).1<=claK x x.2.1.length/\claK x x.2.1.length<=(sumS (newK x.1 x.2.1) bakedV).2:=hl
 obtain ⟨s1,s2⟩:=srch_is (f:=(lessF (newK x.1 x.2.1)).val) (N:=1001) (1001:Int).toNat 0 1001 (by omega) (by omega) (.inl rfl) (.inl rfl)
 obtain ⟨t1,t2⟩:=srch_is (f:=(mostG (newK x.1 x.2.1)).val) (N:=1000) (1000:Int).toNat 0 1000 (by omega) (by omega) (.inl rfl) (.inl rfl)
 have sb:=srch_bd (f:=(lessF (newK x.1 x.2.1)).val) (1001:Int).toNat 0 1001 (by omega)
 have tb2:=srch_bd (f:=(mostG (newK x.1 x.2.1)).val) (1000:Int).toNat 0 1000 (by omega)
 have es:srch (lessF (newK x.1 x.2.1)).val (1001:Int).toNat 0 1001=zaH (1001,lessF (newK x.1 x.2.1)):=rfl
 have et:srch (mostG (newK x.1 x.2.1)).val (1000:Int).toNat 0 1000=zaH (1000,mostG (newK x.1 x.2.1)):=rfl
 have fl:∀ n,(lessF (newK x.1 x.2.1)).val n=decide ((sumS (newK x.1 x.2.1) (overV n)).1<0):=fun n=>rfl
 have fm:∀ n,(mostG (newK x.1 x.2.1)).val n=decide ((sumS (newK x.1 x.2.1) (overV n)).2<=0):=fun n=>rfl
 rw [es] at s1 s2 sb
 rw [et] at t1 t2 tb2
 rw [fl] at s1 s2
 rw [fm] at t1 t2
 have hz:=sum_nn h.B (f:=overV 0) fun s hs=>by
  have:=(coal_bd hs).1
  show 0<=1000*coalV s - 0*leadV s
  omega
 generalize zaH (1001,lessF (newK x.1 x.2.1))=P at *
 generalize zaH (1000,mostG (newK x.1 x.2.1))=Q at *
 have hP:1<=P:=by
  rcases Int.lt_or_le 0 P with hh | hh
  ·omega
  ·have:P=0:=by omega
   subst this
   rcases s2 with e | e
   ·cases e
   ·have:=of_decide_eq_true e;omega
 refine ⟨_,_,_,hg,hh,?_,?_,?_,?_,⟨by show 0<=P - 1;omega,by show P - 1<=1000;omega⟩,tb2,?_,?_⟩
 ·rw [p1];dsimp only;omega
 ·rw [p3];dsimp only;omega
 ·rw [p1];dsimp only;omega
 ·rw [p3];dsimp only;omega
 ·rcases s1 with e | e
  ·omega
  ·have e:=of_decide_eq_false e
   have:=(ho (P - 1)).1
   show (P - 1)*_<=_
   omega
 ·rcases t2 with e | e
  ·subst e
   show _<=1000*_
   omega
  ·have e:=of_decide_eq_true e
   have:=(ho Q).2
   show _<=Q*_
   omega
end
end Go.Tt
/-
 TopBlack: the condition of the law.
-/
namespace Go.Tt
open Go Go.Sx
theorem at_ok {c:List Tint} {g k:Int} (hc:curveB c=true) (h1:0<=g) (h2:0<=k) (h3:1<=g+k) (h4:g+k<=4000000000000):AtOk (c,g,k):=⟨hc,h1,h2,h3,h4⟩
theorem fra_bd {f:Int × Int} (h:FraOk f):(0<=zaZ f/\zaZ f<=4000000000000000001)/\(0<=zax f/\zax f<=4000000000000000001):=by
 have h1:=h.under
 have h2:=h.top
 have hm:=yaU h1.1 h2.1
 have u:=up_le h (q:=f.1) (by omega)
 have d0:=down_ge h (q:=0) (by omega)
 have d:=fle_mix h h (ydy _)
 have u0:0<=zaZ f:=by omega
 omega
theorem zji {c:List Tint} (hc:curveB c=true) {g k a d:Int} (m:MixOk (c,g,k)) (A:AtOk (c,a,d)):(g*(a+d)<=a*(g+k)->zar (zad (c,g,k))<=zaZ (zaE (c,a,d)))/\(a*(g+k)<=g*(a+d)->zax (zaE (c,a,d))<=zaj (zad (c,g,k))):=by
 have C:=zcQ hc
 obtain ⟨b1,e⟩:=zlU m
 have b2:=at_brk A
 have hg:=m.g
 have hk:=m.c
 have ho:=A.one
 simp only [gram] at hg hk ho
 have A1:AtOk (c,g,k):=at_ok hc (by omega) hk.1 (by omega) (by omega)
 have f1:=at_fra A1 b1
 have f2:=at_fra A b2
 rw [e]
 constructor
 ·intro h
  exact fle_up f1 f2 (zga C b1 b2 (by omega) ho h)
 ·intro h
  exact zmr f2 f1 (zga C b2 b1 ho (by omega) h)
theorem zlT {c:List Tint} (hc:curveB c=true) {C L:Span} {t n:Int} (hl:leadsB (C,L,t,[],(0,0),(0,0),0)=true) (h0:0<=n) (h2:n<=200) (h3:zar (zad (c,C.1,L.2)) - t<=n) (h4:n<=zaj (zad (c,C.2,L.1))+t) :
  (zaI (c,C,L,t,[],(0,0),(0,0),0)).2=0/\(zaI (c,C,L,t,[],(0,0),(0,0),0)).1.1<=n/\n<=(zaI (c,C,L,t,[],(0,0),(0,0),0)).1.2:=by
 have e:blackB (c,C,L,t,[],(0,0),(0,0),0)=(max 0 (zar (zad (c,C.1,L.2)) - t),min 200 (zaj (zad (c,C.2,L.1))+t)):=rfl
 have hv:zaI (c,C,L,t,[],(0,0),(0,0),0)=(blackB (c,C,L,t,[],(0,0),(0,0),0),0):=by
  rw [zaI,blackV,hc,hl]
  have:decide ((blackB (c,C,L,t,[],(0,0),(0,0),0)).2<(blackB (c,C,L,t,[],(0,0),(0,0),0)).1)=false:=by
   rw [e]
   exact decide_eq_false (by dsimp only;omega)
  rw [this];rfl
 rw [hv,e]
 dsimp only
 omega
theorem v3 (x:BlackIn) (hp:k3.pre x):V3 x:=by
 obtain ⟨⟨hl1,hl2⟩,ht,hby⟩:(x.1.length<=big47/\x.2.1.length<=big47)/\(0<=x.2.2.2.1/\x.2.2.2.1<=255)/\∀ b∈x.2.2.2.2,(0:Int)<=b/\b<=4294967295:=hp
 refine ⟨fun _=>hl1,fun h=>⟨?_,hl2⟩,fun _=>trivial,fun _=>⟨trivial,rfl⟩,fun hg=>?_⟩
 ·rw [ydM] at h
  exact zgk h.2
 rw [ydM,ydM,ydM] at hg
 have hs:sacksB x.1=true:=not_iff.2.1 hg.1.1.2
 have hb:batchB x.1 x.2.1=true:=not_iff.2.1 hg.1.2
 have hc:curveB x.2.2.1=true:=not_iff.2.1 hg.2
 have hy:x.2.2.2.2.length≠0:=by have:=hg.1.1.1;intro e;rw [e] at this;cases this
 clear hg
 have h:BlackIs x:=⟨zgb hs hb,hc,hy,hby⟩
 have b8:=h.B.b8
 have l8:=h.B.l8
 obtain ⟨C,L,S,T⟩:=told_is h hs hb
 refine ⟨fun s=>∃ i:Nat,s.2=(i:Int)/\i<=x.2.1.length/\s.1=topK x i/\0<=s.1/\s.1<=100000*(i:Int),fun s=>((x.2.1.length:Int) - s.2).toNat,⟨0,rfl,by omega,rfl,by simp,by simp⟩,?_⟩
 rintro ⟨t,i'⟩ ⟨i,ei,hi,et,t0,t1⟩
 simp only at ei et t0 t1
 subst ei
 refine ⟨fun hd=>?_,fun hd=>?_⟩
 ·have hd:(i:Int)<(x.2.1.length:Int):=of_decide_eq_true hd
  have hil:i<x.2.1.length:=by omega
  have htk:=(h.B.take _ (zbv x.2.1 (0,0,0) i hil)).2
  simp only [Int.toNat_natCast]
  refine ⟨⟨by omega,hd⟩,by simp only [Z.in64];omega,by simp only [Z.in64];omega,⟨i+1,rfl,hil,?_,by show 0<=t+(x.2.1.getD i (0,0,0)).2.2;omega,by show t+(x.2.1.getD i (0,0,0)).2.2<=100000*((i+1:Nat):Int);omega⟩,?_⟩
  ·have:topK x (i+1)=topK x i+(x.2.1.getD i zTa).2.2:=zau _ _
   rw [this,<-et]
  ·show ((x.2.1.length:Int) - ((i:Int)+1)).toNat<((x.2.1.length:Int) - (i:Int)).toNat
   omega
 have hd:¬ (i:Int)<(x.2.1.length:Int):=of_decide_eq_false hd
 have:i=x.2.1.length:=by omega
 subst this
 clear hd hi
 have hg1:(gK x).1.2.1=C:=by rw [T.g]
 have hg2:(gK x).1.2.2.2.1=L:=by rw [T.g]
 have hh1:(hK x).1=S:=by rw [T.h]
 refine ⟨trivial,trivial,fun hb'=>?_,fun _=>⟨fun _=>⟨trivial,rfl⟩,fun hg=>?_⟩⟩
 ·rw [T.g,T.h] at hb';cases hb'
 rw [ydM] at hg
 have hsum:¬ (2000:Int)<t:=of_decide_eq_false hg.1
 have hcar:¬ (gK x).1.2.1.1<1:=of_decide_eq_false hg.2
 rw [hg1] at hcar
 clear hg
 have htol:=tmK (b:=201) ht.1 (by decide)
 refine ⟨by decide,trivial,fun s=>∃ i:Nat,s.2.2=(i:Int)/\i<=x.2.1.length/\s.1=carK x i/\s.2.1=claK x i,fun s=>((x.2.1.length:Int) - s.2.2).toNat,⟨0,rfl,by omega,rfl,rfl⟩,?_⟩
 rintro ⟨a,d,i'⟩ ⟨i,ei,hi,ea,ed⟩
 simp only at ei ea ed
 subst ei
 have tb:=tot_bd h i hi
 have hmono:=zik (f:=fun j=>max 0 (x.2.1.getD j zTa).2.2) (fun j=>by omega) i (x.2.1.length - i)
 have htop:topK x i<=topK x x.2.1.length:=by
  have e:∀ j,j<=x.2.1.length->topK x j=sumN j fun j=>max 0 (x.2.1.getD j zTa).2.2:=fun j hj=>zem fun q hq=>by
   have:=(h.B.take _ (zbv x.2.1 zTa q (by omega))).2
   omega
  rw [e i hi,e _ (yag _)]
  rw [show i+(x.2.1.length - i)=x.2.1.length by omega] at hmono
  exact hmono
 rw [<-ea,<-ed] at tb
 refine ⟨fun hd=>?_,fun hd=>?_⟩
 ·have hd:(i:Int)<(x.2.1.length:Int):=of_decide_eq_true hd
  have hil:i<x.2.1.length:=by omega
  have htk:=h.B.take _ (zbv x.2.1 zTa i hil)
  obtain ⟨n1,n2⟩:=nr_lt h hil
  have hst:=st_ok h hil
  have hmi:=m_in h i hil
  have hmi:(x.2.1.getD i zTa).2.1<=mK x (i:Nat)/\mK x (i:Nat)<=(x.2.1.getD i zTa).2.2:=hmi
  obtain ⟨q1,q2,q3⟩:=sack_of (h.B.sack _ (zbv x.1 zSa _ n1))
  have etk:tkK x (i:Nat)=x.2.1.getD i zTa:=rfl
  have ew:wK x (i:Nat)=(stK x (nrK x i)).1:=by
   show zah (_,3*(x.2.1.getD i zTa).1,_)=zah (_,3*(nrK x i:Int),_)
   rw [<-n2];rfl
  have ec:cK x (i:Nat)=(stK x (nrK x i)).2.1:=by
   show zah (_,3*(x.2.1.getD i zTa).1+1,_)=zah (_,3*(nrK x i:Int)+1,_)
   rw [<-n2];rfl
  have el:lK x (i:Nat)=(stK x (nrK x i)).2.2:=by
   show zah (_,3*(x.2.1.getD i zTa).1+2,_)=zah (_,3*(nrK x i:Int)+2,_)
   rw [<-n2];rfl
  have esk:skK x (i:Nat)=x.1.getD (nrK x i) zSa:=rfl
  have ha1:carK x (i+1)=carK x i+mK x (i:Nat)*coalV (stK x (nrK x i)):=zau _ _
  have hd1:claK x (i+1)=claK x i+mK x (i:Nat)*bakedV (stK x (nrK x i)):=zau _ _
  have tb2:=tot_bd h (i+1) hil
  have hs1:=hst.w
  have hs2:=hst.c
  have hs3:=hst.n
  have etp:topK x (i+1)=topK x i+(x.2.1.getD i zTa).2.2:=zau _ _
  simp only [ew,ec,el,esk,etk]
  have hcoal:coalV (stK x (nrK x i))=(1000 - (stK x (nrK x i)).1)*(stK x (nrK x i)).2.1*1000:=rfl
  have hbak:bakedV (stK x (nrK x i))=(1000 - (stK x (nrK x i)).1)*(1000 - (stK x (nrK x i)).2.1)*(1000 - (stK x (nrK x i)).2.2):=rfl
  have hm0:0<=mK x (i:Nat)/\mK x (i:Nat)<=100000:=by omega
  generalize mK x (i:Nat)=m at *
  have e1:m*(1000 - (stK x (nrK x i)).1)*(stK x (nrK x i)).2.1*1000=m*coalV (stK x (nrK x i)):=by rw [hcoal];grind
  have e2:m*(1000 - (stK x (nrK x i)).1)*(1000 - (stK x (nrK x i)).2.1)*(1000 - (stK x (nrK x i)).2.2)=m*bakedV (stK x (nrK x i)):=by rw [hbak];grind
  have m1:=mul_bd (A:=100000) (B:=1000) (a:=m) (b:=1000 - (stK x (nrK x i)).1) hm0 ⟨by omega,by omega⟩
  have m2:=mul_bd (A:=100000000) (B:=1000) (a:=m*(1000 - (stK x (nrK x i)).1)) (b:=(stK x (nrK x i)).2.1) ⟨m1.1,by omega⟩ hs2
  have m3:=mul_bd (A:=100000000) (B:=1000) (a:=m*(1000 - (stK x (nrK x i)).1)) (b:=1000 - (stK x (nrK x i)).2.1) ⟨m1.1,by omega⟩ ⟨by omega,by omega⟩
  have m4:=mul_bd (A:=100000000000) (B:=1000) (a:=m*(1000 - (stK x (nrK x i)).1)*(1000 - (stK x (nrK x i)).2.1)) (b:=1000 - (stK x (nrK x i)).2.2) ⟨m3.1,by omega⟩ ⟨by omega,by omega⟩
  have k0:=htk.1
  have kb:(0:Int)<=(x.2.1.getD i zTa).1/\(x.2.1.getD i zTa).1<(x.1.length:Int):=⟨k0.1,by omega⟩
  have sp1:=fun (n:Int) (hn:0<=n)=>zdk h (n:=n) q1 (by omega) (by omega) hn
  have sp2:=fun (n:Int) (hn:0<=n)=>zdk h (n:=n) q2 (by omega) (by omega) hn
  have sp3:=fun (n:Int) (hn:0<=n)=>zdk h (n:=n) q3 (by omega) (by omega) hn
  have sp4:=fun (n:Int) (hn:0<=n)=>zdk h (n:=n) htk.2 (by omega) (by omega) hn
  have i64:∀ n:Int,-9000000000000000000<=n/\n<=9000000000000000000->Z.in64 n:=fun n h=>by simp only [Z.in64];omega
  have ha2:a+m*(1000 - (stK x (nrK x i)).1)*(stK x (nrK x i)).2.1*1000=carK x (i+1):=by rw [ha1,e1,ea]
  have hd2:d+m*(1000 - (stK x (nrK x i)).1)*(1000 - (stK x (nrK x i)).2.1)*(1000 - (stK x (nrK x i)).2.2)=claK x (i+1):=by rw [hd1,e2,ed]
  refine ⟨⟨by omega,hd⟩,kb,i64 _ (by omega),sp1 _ (by omega),kb,i64 _ (by omega),i64 _ (by omega),sp2 _ (by omega),kb,i64 _ (by omega),i64 _ (by omega),sp3 _ (by omega),⟨by omega,hd⟩,i64 _ (by omega),i64 _ (by omega),sp4 _ (by omega),i64 _ (by omega),i64 _ (by omega),i64 _ (by omega),i64 _ (by omega),?_,i64 _ (by omega),i64 _ (by omega),i64 _ (by omega),i64 _ (by omega),i64 _ (by omega),i64 _ (by omega),?_,i64 _ (by omega),by first | rfl | trivial,by first | rfl | trivial,by first | rfl | trivial,by first | rfl | trivial,⟨i+1,rfl,hil,ha2,hd2⟩,?_⟩
  ·refine i64 _ ?_
   rw [ha2];omega
  ·refine i64 _ ?_
   rw [hd2];omega
  ·show ((x.2.1.length:Int) - ((i:Int)+1)).toNat<((x.2.1.length:Int) - (i:Int)).toNat
   omega
 have hd:¬ (i:Int)<(x.2.1.length:Int):=of_decide_eq_false hd
 have:i=x.2.1.length:=by omega
 subst this
 have hC1:=T.cb
 have hL1:=T.lb
 have hca:=T.c
 have hla:=T.l
 have hS:=T.s
 have hSt:=T.t
 have hsl:=T.sl
 have hsh:=T.sh
 rw [<-ea] at hca hsl hsh
 rw [<-ed] at hla hsl hsh
 have A:AtOk (x.2.2.1,a,d):=at_ok hc tb.1 tb.2.1 (by omega) (by omega)
 have F:FraOk (aK x a d):=at_fra A (at_brk A)
 have A1:AtOk (x.2.2.1,S.1,1000 - S.1):=at_ok hc hS.1 (by omega) (by omega) (by omega)
 have A2:AtOk (x.2.2.1,S.2,1000 - S.2):=at_ok hc hSt.1 (by omega) (by omega) (by omega)
 have F1:FraOk (zaE (x.2.2.1,S.1,1000 - S.1)):=at_fra A1 (at_brk A1)
 have F2:FraOk (zaE (x.2.2.1,S.2,1000 - S.2)):=at_fra A2 (at_brk A2)
 have Cv:=zcQ hc
 have l1:FLe (zaE (x.2.2.1,S.1,1000 - S.1)) (aK x a d):=zga Cv (at_brk A1) (at_brk A) (by omega) (by omega) (by rw [show S.1+(1000 - S.1)=1000 by omega];exact hsl)
 have l2:FLe (aK x a d) (zaE (x.2.2.1,S.2,1000 - S.2)):=zga Cv (at_brk A) (at_brk A2) (by omega) (by omega) (by rw [show S.2+(1000 - S.2)=1000 by omega];exact hsh)
 have r1:zax (zaE (x.2.2.1,S.1,1000 - S.1))<=uK x a d:=fle_mix F1 F l1
 have r2:dK x a d<=zaZ (zaE (x.2.2.1,S.2,1000 - S.2)):=fle_mix F F2 l2
 obtain ⟨bu,bd⟩:=fra_bd F
 have bu:0<=uK x a d/\uK x a d<=4000000000000000001:=bu
 have bd:0<=dK x a d/\dK x a d<=4000000000000000001:=bd
 have htl:0<=tK x/\tK x<201:=htol
 have hleads:leadsB (C,L,tK x,[],(0,0),(0,0),0)=true:=by
  simp only [leadsB,Bool.and_eq_true,zeT,inB_iff,decide_eq_true_eq]
  simp only [gram,topN]
  refine ⟨⟨⟨⟨⟨by omega,by omega⟩,by omega⟩,⟨by omega,by omega⟩,by omega⟩,by simp⟩,rfl⟩
 obtain ⟨x1,x2⟩:=mixes (x:=(x.2.2.1,C,L,tK x,[],(0,0),(0,0),0)) hc hleads
 have m1:C.1*d<=a*L.2:=by
  have e1:=yaU hla.2 hC1.1
  have e2:=yds hca.1 (show 0<=L.2 by omega)
  have e3:C.1*(L.2*1000000000)=C.1*1000000000*L.2:=by rw [ydT,ydU L.2]
  omega
 have m2:a*L.1<=C.2*d:=by
  have e1:=yaU hla.1 (show 0<=C.2 by omega)
  have e2:=yds hca.2 hL1.1
  have e3:C.2*(L.1*1000000000)=C.2*1000000000*L.1:=by rw [ydT,ydU L.1]
  omega
 have y1:zar (zad (x.2.2.1,C.1,L.2))<=uK x a d:=(zji hc x1 A).1 (by show C.1*(a+d)<=a*(C.1+L.2);rw [ydX,ydX,ydU C.1 a];omega)
 have y2:dK x a d<=zaj (zad (x.2.2.1,C.2,L.1)):=(zji hc x2 A).2 (by show a*(C.2+L.1)<=C.2*(a+d);rw [ydX,ydX,ydU C.2 a];omega)
 have ebk:bK x=zaI (x.2.2.1,C,L,tK x,[],(0,0),(0,0),0):=by
  show zaI (x.2.2.1,(gK x).1.2.1,(gK x).1.2.2.2.1,tK x,[],(0,0),(0,0),0)=_
  rw [hg1,hg2]
 have i64:∀ n:Int,-9000000000000000000<=n/\n<=9000000000000000000->Z.in64 n:=fun n h=>by simp only [Z.in64];omega
 have hby0:=hby _ (zbv x.2.2.2.2 0 0 (by omega))
 have hwr:=wrapI (n:=x.2.2.2.2.getD 0 0) ⟨by omega,by omega⟩
 have nb:¬ dK x a d+tK x<uK x a d - tK x->uK x a d - tK x<=nK x a d/\nK x a d<=dK x a d+tK x:=fun hn=>by
  have hm:=tmK (a:=x.2.2.2.2.getD 0 0) (b:=dK x a d+tK x - (uK x a d - tK x)+1) hby0.1 (by omega)
  rw [<-hwr] at hm
  show uK x a d - tK x<=uK x a d - tK x+ydA (Go.IntKind.wrap .i64 (x.2.2.2.2.getD 0 0)) (dK x a d+tK x - (uK x a d - tK x)+1)/\uK x a d - tK x+ydA (Go.IntKind.wrap .i64 (x.2.2.2.2.getD 0 0)) (dK x a d+tK x - (uK x a d - tK x)+1)<=dK x a d+tK x
  omega
 dsimp only
 rw [hh1]
 refine ⟨A,F,i64 _ (by omega),F,i64 _ (by omega),fun _=>⟨trivial,rfl⟩,fun hlh=>?_⟩
 have hlh:=of_decide_eq_false hlh
 obtain ⟨nb1,nb2⟩:=nb hlh
 refine ⟨⟨by omega,by omega⟩,i64 _ (by omega),i64 _ (by omega),by omega,i64 _ (by omega),fun _=>⟨trivial,rfl⟩,fun hn=>?_⟩
 rw [ydM] at hn
 have hn0:=of_decide_eq_false hn.1
 have hn1:=of_decide_eq_false hn.2
 obtain ⟨z1,z2,z3⟩:=zlT hc hleads (n:=nK x a d) (by omega) (by omega) (by omega) (by omega)
 rw [ebk]
 refine ⟨fun hb'=>?_,fun _=>⟨i64 _ (by omega),A1,i64 _ (by omega),A2,F1,F,fun _=>F2,fun _=>F,fun _=>trivial,?_⟩⟩
 ·exfalso
  rw [z1,yaE,yaE] at hb'
  rcases hb' with (hb' | hb') | hb'
  ·cases hb'
  ·have:=of_decide_eq_true hb';omega
  ·have:=of_decide_eq_true hb';omega
 ·rw [decide_eq_true r1,decide_eq_true r2];rfl
end Go.Tt
