/-
  Shade: halving, mixes, what leads can be.
-/
import Derived.Test.YtdhdklojcppfcaaTtSP1
set_option linter.all false
set_option maxRecDepth 100000
set_option maxHeartbeats 4000000
set_option linter.unusedVariables false
namespace Go.Tt
open Go Go.Sx
theorem wrapU {n:Int} (h:0<=n∧n<=18446744073709551615):Go.IntKind.wrap .u64 n=n:=by
 unfold Go.IntKind.wrap
 simp [IntKind.bits,IntKind.signed]
 omega
theorem wrapI {n:Int} (h:-9223372036854775808<=n∧n<=9223372036854775807):Go.IntKind.wrap .i64 n=n:=by
 unfold Go.IntKind.wrap
 simp [IntKind.bits,IntKind.signed]
 omega
theorem half {i j:Int} (h0:0<=i) (h:i<j) (hj:j<=1152921504606846976):Go.IntKind.wrap .i64 (Int.fdiv (Go.IntKind.wrap .u64 (i+j)) (2^(Int.toNat (1))))=Int.fdiv (i+j) 2∧i<=Int.fdiv (i+j) 2∧Int.fdiv (i+j) 2<j:=by
 have e1:Go.IntKind.wrap .u64 (i+j)=i+j:=wrapU ⟨by omega,by omega⟩
 rw [e1,show (2:Int)^(Int.toNat 1)=2 from rfl,Int.fdiv_eq_ediv_of_nonneg _ (by decide)]
 refine ⟨?_,by omega,by omega⟩
 exact wrapI ⟨by omega,by omega⟩
theorem srch_bd {f:Int->Bool}:∀ (n:Nat) (i j:Int),i<=j->i<=srch f n i j∧srch f n i j<=j
 | 0,i,j,h=>⟨Int.le_refl _,h⟩
 | n+1,i,j,h=>by
  rw [srch]
  cases hd:decide (i<j) with
  | false=>exact ⟨Int.le_refl _,h⟩
  | true =>
   have hl:=of_decide_eq_true hd
   have e:Int.fdiv (i+j) 2=(i+j) / 2:=Int.fdiv_eq_ediv_of_nonneg _ (by decide)
   rw [cond_true,e]
   cases f ((i+j) / 2) with
   | true=>have:=srch_bd (f:=f) n i ((i+j) / 2) (by omega);rw [cond_true];omega
   | false=>have:=srch_bd (f:=f) n ((i+j) / 2+1) j (by omega);rw [cond_false];omega
theorem srch_end {f:Int->Bool} {i j:Int} (h:j<=i):∀ n,srch f n i j=i
 | 0=>rfl
 | n+1=>by rw [srch,show decide (i<j)=false from decide_eq_false (by omega)];rfl
theorem v62 (x:Int × Fun Int Bool) (h:k62.pre x):V62 x:=by
 obtain ⟨n,F⟩:=x
 obtain ⟨⟨n0,n1⟩,hp⟩:zcr (n,F):=h
 simp only at n0 n1 hp
 refine ⟨fun s=>(0<=s.1∧s.1<=s.2∧s.2<=n)∧∃ f:Nat,s.2 - s.1<=f∧srch F.val f s.1 s.2=zcX (n,F),fun s=>(s.2 - s.1).toNat,⟨⟨by simp,by simpa using n0,by simp⟩,n.toNat,by simp only;omega,rfl⟩,?_⟩
 rintro ⟨i,j⟩ ⟨⟨b1,b2,b3⟩,f,hf,he⟩
 simp only at b1 b2 b3 hf he ⊢
 refine ⟨fun hl=>?_,fun hl=>?_⟩
 ·have hl':=hl
  have hl:=of_decide_eq_true hl
  obtain ⟨e,g1,g2⟩:=half b1 hl (by omega)
  rw [e]
  obtain ⟨m,hm⟩:∃ m,m=Int.fdiv (i+j) 2:=⟨_,rfl⟩
  rw [<-hm] at g1 g2
  rw [<-hm]
  obtain ⟨f',rfl⟩:∃ f',f=f'+1:=⟨f - 1,by omega⟩
  rw [srch,hl',cond_true,<-hm] at he
  refine ⟨by simp only [Z.in64];omega,by decide,hp m (by omega) (by omega),fun hv=>?_,fun hv=>?_⟩
  ·rw [not_iff.1.1 hv,cond_false] at he
   refine ⟨by simp only [Z.in64];omega,⟨⟨by show 0<=m+1;omega,by show m+1<=j;omega,b3⟩,f',by show j - (m+1)<=_;omega,he⟩,?_⟩
   show (j - (m+1)).toNat<(j - i).toNat
   omega
  ·rw [not_iff.2.1 hv,cond_true] at he
   refine ⟨⟨⟨b1,by show i<=m;omega,by show m<=n;omega⟩,f',by show m - i<=_;omega,he⟩,?_⟩
   show (m - i).toNat<(j - i).toNat
   omega
 ·have hl:=of_decide_eq_false hl
  rw [<-he,srch_end (by omega)]
structure Curve (c:List Tint):Prop where
 l2:2<=c.length
 l8:c.length<=8
 r0:(c.getD 0 (0,0)).1=0
 r1:(c.getD (c.length - 1) (0,0)).1=1000
 bl:∀ i,i<c.length->0<=(c.getD i (0,0)).2∧(c.getD i (0,0)).2<=200
 up:∀ i,i+1<c.length->(c.getD i (0,0)).1<(c.getD (i+1) (0,0)).1∧(c.getD i (0,0)).2<=(c.getD (i+1) (0,0)).2
theorem curve_of {c:List Tint} (h:curveB c=true):Curve c:=by
 simp only [curveB,Bool.and_eq_true,beq_iff_eq,inB_iff] at h
 obtain ⟨⟨⟨⟨h2,h8⟩,h0⟩,h1⟩,ha⟩:=h
 have hb:∀ i,i<c.length->tintB c i=true:=fun i hi=>range_all (tintB c) _ i hi ha
 refine ⟨by omega,by omega,h0,h1,fun i hi=>?_,fun i hi=>?_⟩
 ·have:=hb i hi
  simp only [tintB,Bool.and_eq_true,inB_iff] at this
  exact this.1
 ·have:=(Bool.and_eq_true _ _▸hb (i+1) hi).2
  simp only [Nat.add_sub_cancel,Bool.or_eq_true,Bool.and_eq_true,decide_eq_true_eq] at this
  rcases this with h | h
  ·simp at h
  ·exact h
theorem Curve.mono {c:List Tint} (h:Curve c):∀ (k i:Nat),i+k<c.length->(c.getD i (0,0)).1<=(c.getD (i+k) (0,0)).1
 | 0,i,_=>Int.le_refl _
 | k+1,i,hk=>by
  have h1:=h.mono k i (by omega)
  have h2:=(h.up (i+k) (by omega)).1
  have:(c.getD (i+(k+1)) (0,0)).1=(c.getD (i+k+1) (0,0)).1:=rfl
  omega
theorem Curve.ratio {c:List Tint} (h:Curve c) {i:Nat} (hi:i<c.length):0<=(c.getD i (0,0)).1∧(c.getD i (0,0)).1<=1000:=by
 have h1:=h.mono i 0 (by omega)
 have h2:=h.mono (c.length - 1 - i) i (by omega)
 rw [show i+(c.length - 1 - i)=c.length - 1 by omega] at h2
 rw [Nat.zero_add] at h1
 have:=h.r0
 have:=h.r1
 omega
theorem v259 (x:Mix × Int) (h:k259.pre x):V259 x:=by
 obtain ⟨⟨c,g,k⟩,i⟩:=x
 obtain ⟨⟨hc,hg,hk⟩,i0,i1⟩:MixOk (c,g,k)∧0<=i∧i+1<(c.length:Int):=h
 have C:Curve c:=curve_of hc
 have l8:=C.l8
 have hr:=C.ratio (i:=(i+1).toNat) (by omega)
 simp only [gram] at hg hk
 have hm:=mul_bd (A:=1000) (B:=2147483648) hr (b:=g+k) ⟨by omega,by omega⟩
 refine ⟨by simp only [Z.in64];omega,⟨by show 0<=i+1;omega,i1⟩,by simp only [Z.in64];omega,?_,by simp only [Z.in64];omega,rfl⟩
 show Z.in64 ((c.getD (i+1).toNat (0,0)).1*(g+k))
 simp only [Z.in64];omega
theorem v258 (x:Int × Int) (h:k258.pre x):V258 x:=by
 obtain ⟨⟨h1,h2⟩,h3,h4⟩:ratioOk x:=h
 refine ⟨⟨by omega,?_⟩,rfl⟩
 have:=Int.natAbs_tdiv_le_natAbs x.1 x.2
 simp only [Z.in64];omega
theorem v257 (x:Int × Int) (h:k257.pre x):V257 x:=by
 obtain ⟨⟨h1,h2⟩,h3,h4⟩:ratioOk x:=h
 refine ⟨by simp only [Z.in64];omega,by simp only [Z.in64];omega,⟨by omega,?_⟩,rfl⟩
 have:=Int.natAbs_tdiv_le_natAbs (x.1+x.2 - 1) x.2
 simp only [Z.in64];omega
structure BlackOk (m:Mix):Prop where
 c0:0<=cutS m
 c1:cutS m+1<(m.1.length:Int)
 pre:zcr ((m.1.length:Int) - 2,reachF m)
 w:1<=(bS m).1 - (aS m).1∧(bS m).1 - (aS m).1<=1000
 a1:0<=(aS m).1∧(aS m).1<=1000
 a2:0<=(aS m).2∧(aS m).2<=200
 d2:0<=(bS m).2 - (aS m).2∧(bS m).2 - (aS m).2<=200
 all:1<=m.2.1+m.2.2∧m.2.1+m.2.2<=2147483648
theorem black_ok {m:Mix} (h:MixOk m):BlackOk m:=by
 have C:=curve_of h.curve
 have l2:=C.l2
 have l8:=C.l8
 have hb:=srch_bd (f:=(reachF m).val) ((m.1.length:Int) - 2).toNat 0 ((m.1.length:Int) - 2) (by omega)
 have hb:0<=cutS m∧cutS m<=(m.1.length:Int) - 2:=hb
 have hg:=h.g
 have hc:=h.c
 simp only [gram] at hg hc
 have e:(cutS m+1).toNat=(cutS m).toNat+1:=by omega
 have hu:=C.up (cutS m).toNat (by omega)
 have ha:=C.ratio (i:=(cutS m).toNat) (by omega)
 have hb1:=C.ratio (i:=(cutS m).toNat+1) (by omega)
 have ha2:=C.bl (cutS m).toNat (by omega)
 have hb2:=C.bl ((cutS m).toNat+1) (by omega)
 rw [<-e] at hu hb1 hb2
 refine ⟨hb.1,by omega,⟨⟨by show 0<=(m.1.length:Int) - 2;omega,by show (m.1.length:Int) - 2<=_;omega⟩,fun i h0 h1=>⟨h,h0,by have h1:i<(m.1.length:Int) - 2:=h1;show i+1<(m.1.length:Int);omega⟩⟩,?_,ha,ha2,?_,by omega⟩
 ·show 1<=(m.1.getD (cutS m+1).toNat (0,0)).1 - (m.1.getD (cutS m).toNat (0,0)).1∧(m.1.getD (cutS m+1).toNat (0,0)).1 - (m.1.getD (cutS m).toNat (0,0)).1<=1000
  omega
 ·show 0<=(m.1.getD (cutS m+1).toNat (0,0)).2 - (m.1.getD (cutS m).toNat (0,0)).2∧(m.1.getD (cutS m+1).toNat (0,0)).2 - (m.1.getD (cutS m).toNat (0,0)).2<=200
  omega
theorem v256 (x:Mix) (h:k256.pre x):V256 x:=by
 have h:MixOk x:=h
 have B:=black_ok h
 obtain ⟨w1,w2⟩:=B.w
 obtain ⟨s1,s2⟩:=B.all
 have hg:=h.g
 simp only [gram] at hg
 have l8:=(curve_of h.curve).l8
 have m1:=mul_bd (A:=200) (B:=1000) B.a2 (b:=(bS x).1 - (aS x).1) ⟨by omega,w2⟩
 have m2:=mul_bd (A:=200000) (B:=2147483648) ⟨m1.1,by have:=m1.2;omega⟩ (b:=x.2.1+x.2.2) ⟨by omega,s2⟩
 have m3:=mul_bd (A:=1000) (B:=2147483648) B.a1 (b:=x.2.1+x.2.2) ⟨by omega,s2⟩
 have m4:=mul_sb (A:=200) (B:=2199023255552) B.d2 (b:=1000*x.2.1 - (aS x).1*(x.2.1+x.2.2)) ⟨by omega,by omega⟩
 have m5:=mul_bd (A:=1000) (B:=2147483648) (a:=(bS x).1 - (aS x).1) ⟨by omega,w2⟩ (b:=x.2.1+x.2.2) ⟨by omega,s2⟩
 have c0:=B.c0
 have c1:=B.c1
 have a1:=B.a1
 have a2:=B.a2
 have d2:=B.d2
 unfold V256 Z.in64
 refine ⟨by omega,by omega,B.pre,⟨c0,by omega⟩,by omega,⟨by omega,c1⟩,by show _<=(bS x).1 - (aS x).1∧(bS x).1 - (aS x).1<=_;omega,?_,?_,by show _<=(bS x).2 - (aS x).2∧(bS x).2 - (aS x).2<=_;omega,by omega,?_,?_,?_,?_,?_,rfl⟩
 ·show _<=(aS x).2*((bS x).1 - (aS x).1)∧(aS x).2*((bS x).1 - (aS x).1)<=_
  omega
 ·show _<=(aS x).2*((bS x).1 - (aS x).1)*(x.2.1+x.2.2)∧(aS x).2*((bS x).1 - (aS x).1)*(x.2.1+x.2.2)<=_
  omega
 ·show _<=(aS x).1*(x.2.1+x.2.2)∧(aS x).1*(x.2.1+x.2.2)<=_
  omega
 ·show _<=1000*x.2.1 - (aS x).1*(x.2.1+x.2.2)∧1000*x.2.1 - (aS x).1*(x.2.1+x.2.2)<=_
  omega
 ·show _<=((bS x).2 - (aS x).2)*(1000*x.2.1 - (aS x).1*(x.2.1+x.2.2))∧((bS x).2 - (aS x).2)*(1000*x.2.1 - (aS x).1*(x.2.1+x.2.2))<=_
  omega
 ·show _<=(aS x).2*((bS x).1 - (aS x).1)*(x.2.1+x.2.2)+((bS x).2 - (aS x).2)*(1000*x.2.1 - (aS x).1*(x.2.1+x.2.2))∧(aS x).2*((bS x).1 - (aS x).1)*(x.2.1+x.2.2)+((bS x).2 - (aS x).2)*(1000*x.2.1 - (aS x).1*(x.2.1+x.2.2))<=_
  omega
 ·show _<=((bS x).1 - (aS x).1)*(x.2.1+x.2.2)∧((bS x).1 - (aS x).1)*(x.2.1+x.2.2)<=_
  omega
theorem black_ratio {x:Mix} (h:MixOk x):ratioOk (zaF x):=by
 have B:=black_ok h
 obtain ⟨w1,w2⟩:=B.w
 obtain ⟨s1,s2⟩:=B.all
 have hg:=h.g
 simp only [gram] at hg
 have m1:=mul_bd (A:=200) (B:=1000) B.a2 (b:=(bS x).1 - (aS x).1) ⟨by omega,w2⟩
 have m2:=mul_bd (A:=200000) (B:=2147483648) ⟨m1.1,by have:=m1.2;omega⟩ (b:=x.2.1+x.2.2) ⟨by omega,s2⟩
 have m3:=mul_bd (A:=1000) (B:=2147483648) B.a1 (b:=x.2.1+x.2.2) ⟨by omega,s2⟩
 have m4:=mul_sb (A:=200) (B:=2199023255552) B.d2 (b:=1000*x.2.1 - (aS x).1*(x.2.1+x.2.2)) ⟨by omega,by omega⟩
 have m5:=mul_bd (A:=1000) (B:=2147483648) (a:=(bS x).1 - (aS x).1) ⟨by omega,w2⟩ (b:=x.2.1+x.2.2) ⟨by omega,s2⟩
 have m6:1<=((bS x).1 - (aS x).1)*(x.2.1+x.2.2):=Int.mul_pos (by omega) (by omega)
 refine ⟨⟨m6,?_⟩,?_,?_⟩
 ·show ((bS x).1 - (aS x).1)*(x.2.1+x.2.2)<=_
  omega
 ·show _<=(aS x).2*((bS x).1 - (aS x).1)*(x.2.1+x.2.2)+((bS x).2 - (aS x).2)*(1000*x.2.1 - (aS x).1*(x.2.1+x.2.2))
  omega
 ·show (aS x).2*((bS x).1 - (aS x).1)*(x.2.1+x.2.2)+((bS x).2 - (aS x).2)*(1000*x.2.1 - (aS x).1*(x.2.1+x.2.2))<=_
  omega
theorem up_bd {x:Int × Int} (h:ratioOk x):-2251799813685248<=zaO x∧zaO x<=2251799813685248:=by
 obtain ⟨⟨h1,h2⟩,h3,h4⟩:=h
 have:=Int.natAbs_tdiv_le_natAbs (x.1+x.2 - 1) x.2
 simp only [zaO]
 omega
theorem down_bd {x:Int × Int} (h:ratioOk x):-2251799813685248<=zaG x∧zaG x<=2251799813685248:=by
 obtain ⟨⟨h1,h2⟩,h3,h4⟩:=h
 have:=Int.natAbs_tdiv_le_natAbs x.1 x.2
 simp only [zaG]
 omega
structure LeadsOk (l:Leads):Prop where
 g:1<=l.1.1∧l.1.1<=l.1.2∧l.1.2<=gram
 c:0<=l.2.1.1∧l.2.1.1<=l.2.1.2∧l.2.1.2<=gram
 tol:0<=l.2.2.1∧l.2.2.1<=200
 st:0<=l.2.2.2.2.1.1∧l.2.2.2.2.1.1<=l.2.2.2.2.1.2∧l.2.2.2.2.1.2<=10000
 we:0<=l.2.2.2.2.2.1.1∧l.2.2.2.2.2.1.1<=l.2.2.2.2.2.1.2∧l.2.2.2.2.2.1.2<=10000
 many:0<=l.2.2.2.2.2.2∧l.2.2.2.2.2.2<=topN
 s6:l.2.2.2.1.length<=6
 str:∀ s∈l.2.2.2.1,strokeB s=true
theorem leads_of {l:Leads} (h:leadsB l=true):LeadsOk l:=by
 simp only [leadsB,Bool.and_eq_true,span_iff,inB_iff,decide_eq_true_eq] at h
 obtain ⟨⟨⟨⟨⟨h1,h2⟩,h3⟩,⟨h4,h5⟩,h6⟩,h7⟩,h8⟩:=h
 exact ⟨h1,h2,h3,h4,h5,h6,by omega,fun s hs=>List.all_eq_true.1 h8 s hs⟩
theorem mixes {x:(List Tint) × Leads} (hc:curveB x.1=true) (hl:leadsB x.2=true):MixOk (x.1,x.2.1.1,x.2.2.1.2)∧MixOk (x.1,x.2.1.2,x.2.2.1.1):=by
 have L:=leads_of hl
 have h1:=L.g
 have h2:=L.c
 exact ⟨⟨hc,⟨h1.1,by show x.2.1.1<=gram;omega⟩,by show 0<=x.2.2.1.2;omega,h2.2.2⟩,⟨hc,⟨by show 1<=x.2.1.2;omega,h1.2.2⟩,h2.1,by show x.2.2.1.1<=gram;omega⟩⟩
theorem v255 (x:(List Tint) × Leads) (h:k255.pre x):V255 x:=by
 obtain ⟨hc,hl⟩:curveB x.1=true∧leadsB x.2=true:=h
 obtain ⟨m1,m2⟩:=mixes hc hl
 have r1:=black_ratio m1
 have r2:=black_ratio m2
 have b1:=up_bd r1
 have b2:=down_bd r2
 have ht:=(leads_of hl).tol
 refine ⟨m1,m2,r1,by simp only [Z.in64];omega,r2,by simp only [Z.in64];omega,rfl⟩
theorem stroke_ratio {s:Stroke} (h:strokeB s=true):(0<=s.1.1∧s.1.1<=1000)∧(0<=s.1.2∧s.1.2<=1000)∧ratioOk (1000*s.1.1,s.2.2)∧ratioOk (1000*s.1.2,s.2.1):=by
 simp only [strokeB,Bool.and_eq_true,span_iff] at h
 refine ⟨by omega,by omega,⟨⟨?_,?_⟩,?_,?_⟩,⟨⟨?_,?_⟩,?_,?_⟩⟩<;>simp only<;>omega
theorem v260 (x:Stroke) (h:k260.pre x):V260 x:=by
 obtain ⟨h1,h2,h3,h4⟩:=stroke_ratio (s:=x) h
 exact ⟨by simp only [Z.in64];omega,h3,by simp only [Z.in64];omega,h4,rfl⟩
end Go.Tt
