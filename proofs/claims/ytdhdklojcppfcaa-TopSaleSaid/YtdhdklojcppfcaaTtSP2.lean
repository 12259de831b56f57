/-
  Shade: halving, mixes, what leads can be.
-/
import Derived.Test.YtdhdklojcppfcaaTtSP1
set_option linter.all false
set_option maxRecDepth 100000
set_option maxHeartbeats 4000000
set_option linter.unusedVariables false
open Int renaming fdiv->ydE,fdiv_eq_ediv_of_nonneg->yaS,le_refl->ydz
namespace Go.Tt
open Go Go.Sx
theorem wrapU {n:Int} (h:0<=n/\n<=18446744073709551615):Go.IntKind.wrap .u64 n=n:=by
 unfold Go.IntKind.wrap
 simp [IntKind.bits,IntKind.signed]
 omega
theorem wrapI {n:Int} (h:-9223372036854775808<=n/\n<=9223372036854775807):Go.IntKind.wrap .i64 n=n:=by
 unfold Go.IntKind.wrap
 simp [IntKind.bits,IntKind.signed]
 omega
theorem half {i j:Int} (h0:0<=i) (h:i<j) (hj:j<=1152921504606846976):Go.IntKind.wrap .i64 (ydE (Go.IntKind.wrap .u64 (i+j)) (2^(Int.toNat (1))))=ydE (i+j) 2/\i<=ydE (i+j) 2/\ydE (i+j) 2<j:=by
 have e1:Go.IntKind.wrap .u64 (i+j)=i+j:=wrapU ⟨by omega,by omega⟩
 rw [e1,show (2:Int)^(Int.toNat 1)=2 from rfl,yaS _ (by decide)]
 refine ⟨?_,by omega,by omega⟩
 exact wrapI ⟨by omega,by omega⟩
theorem srch_bd {f:Int->Bool}:∀ (n:Nat) (i j:Int),i<=j->i<=srch f n i j/\srch f n i j<=j
 | 0,i,j,h=>⟨ydz _,h⟩
 | n+1,i,j,h=>by
  rw [srch]
  cases hd:decide (i<j) with
  | false=>exact ⟨ydz _,h⟩
  | true =>
   have hl:=of_decide_eq_true hd
   have e:ydE (i+j) 2=(i+j) / 2:=yaS _ (by decide)
   rw [cond_true,e]
   cases f ((i+j) / 2) with
   | true=>have:=srch_bd (f:=f) n i ((i+j) / 2) (by omega);rw [cond_true];omega
   | false=>have:=srch_bd (f:=f) n ((i+j) / 2+1) j (by omega);rw [cond_false];omega
theorem zpE {f:Int->Bool} {i j:Int} (h:j<=i):∀ n,srch f n i j=i
 | 0=>rfl
 | n+1=>by rw [srch,show decide (i<j)=false from decide_eq_false (by omega)];rfl
theorem v62 (x:Int × Fun Int Bool) (h:k62.pre x):V62 x:=by
 obtain ⟨n,F⟩:=x
 obtain ⟨⟨n0,n1⟩,hp⟩:zdp (n,F):=h
 simp only at n0 n1 hp
 refine ⟨fun s=>(0<=s.1/\s.1<=s.2/\s.2<=n)/\∃ f:Nat,s.2 - s.1<=f/\srch F.val f s.1 s.2=zdy (n,F),fun s=>(s.2 - s.1).toNat,⟨⟨by simp,by simpa using n0,by simp⟩,n.toNat,by simp only;omega,rfl⟩,?_⟩
 rintro ⟨i,j⟩ ⟨⟨b1,b2,b3⟩,f,hf,he⟩
 simp only at b1 b2 b3 hf he ⊢
 refine ⟨fun hl=>?_,fun hl=>?_⟩
 ·have hl':=hl
  have hl:=of_decide_eq_true hl
  obtain ⟨e,g1,g2⟩:=half b1 hl (by omega)
  rw [e]
  obtain ⟨m,hm⟩:∃ m,m=ydE (i+j) 2:=⟨_,rfl⟩
  rw [<-hm] at g1 g2
  rw [<-hm]
  obtain ⟨f',rfl⟩:∃ f',f=f'+1:=⟨f - 1,by omega⟩
  rw [srch,hl',cond_true,<-hm] at he
  refine ⟨by simp only [Z.in64];omega,by decide,hp m (by omega) (by omega),fun hv=>?_,fun hv=>?_⟩
  ·rw [not_iff.1.1 hv,cond_false] at he
   refine ⟨by simp only [Z.in64];omega,⟨⟨by show 0<=m+1;omega,by show m+1<=j;omega,b3⟩,f',by show j - (m+1)<=_;omega,he⟩,?_⟩
   show (j - (m+1)).toNat<(j - i).toNat
   omega
  ·rw [not_iff.2.1 hv,cond_true] at he
   refine ⟨⟨⟨b1,by show i<=m;omega,by show m<=n;omega⟩,f',by show m - i<=_;omega,he⟩,?_⟩
   show (m - i).toNat<(j - i).toNat
   omega
 ·have hl:=of_decide_eq_false hl
  rw [<-he,zpE (by omega)]
structure Curve (c:List Tint):Prop where
 l2:2<=c.length
 l8:c.length<=8
 r0:(c.getD 0 (0,0)).1=0
 r1:(c.getD (c.length - 1) (0,0)).1=1000
 bl:∀ i,i<c.length->0<=(c.getD i (0,0)).2/\(c.getD i (0,0)).2<=200
 up:∀ i,i+1<c.length->(c.getD i (0,0)).1<(c.getD (i+1) (0,0)).1/\(c.getD i (0,0)).2<=(c.getD (i+1) (0,0)).2
theorem Curve.mono {c:List Tint} (h:Curve c):∀ (k i:Nat),i+k<c.length->(c.getD i (0,0)).1<=(c.getD (i+k) (0,0)).1
 | 0,i,_=>ydz _
 | k+1,i,hk=>by
  have h1:=h.mono k i (by omega)
  have h2:=(h.up (i+k) (by omega)).1
  have:(c.getD (i+(k+1)) (0,0)).1=(c.getD (i+k+1) (0,0)).1:=rfl
  omega
structure BlackOk (m:Mix):Prop where
 c0:0<=cutS m
 c1:cutS m+1<(m.1.length:Int)
 pre:zdp ((m.1.length:Int) - 2,reachF m)
 w:1<=(bS m).1 - (aS m).1/\(bS m).1 - (aS m).1<=1000
 a1:0<=(aS m).1/\(aS m).1<=1000
 a2:0<=(aS m).2/\(aS m).2<=200
 d2:0<=(bS m).2 - (aS m).2/\(bS m).2 - (aS m).2<=200
 all:1<=m.2.1+m.2.2/\m.2.1+m.2.2<=2147483648
structure LeadsOk (l:Leads):Prop where
 g:1<=l.1.1/\l.1.1<=l.1.2/\l.1.2<=gram
 c:0<=l.2.1.1/\l.2.1.1<=l.2.1.2/\l.2.1.2<=gram
 tol:0<=l.2.2.1/\l.2.2.1<=200
 st:0<=l.2.2.2.2.1.1/\l.2.2.2.2.1.1<=l.2.2.2.2.1.2/\l.2.2.2.2.1.2<=10000
 we:0<=l.2.2.2.2.2.1.1/\l.2.2.2.2.2.1.1<=l.2.2.2.2.2.1.2/\l.2.2.2.2.2.1.2<=10000
 many:0<=l.2.2.2.2.2.2/\l.2.2.2.2.2.2<=topN
 s6:l.2.2.2.1.length<=6
 str:∀ s∈l.2.2.2.1,strokeB s=true
theorem zpO {l:Leads} (h:leadsB l=true):LeadsOk l:=by
 simp only [leadsB,Bool.and_eq_true,zmR,inB_iff,decide_eq_true_eq] at h
 obtain ⟨⟨⟨⟨⟨h1,h2⟩,h3⟩,⟨h4,h5⟩,h6⟩,h7⟩,h8⟩:=h
 exact ⟨h1,h2,h3,h4,h5,h6,by omega,fun s hs=>List.all_eq_true.1 h8 s hs⟩
theorem mixes {x:(List Tint) × Leads} (hc:curveB x.1=true) (hl:leadsB x.2=true):MixOk (x.1,x.2.1.1,x.2.2.1.2)/\MixOk (x.1,x.2.1.2,x.2.2.1.1):=by
 have L:=zpO hl
 have h1:=L.g
 have h2:=L.c
 exact ⟨⟨hc,⟨h1.1,by show x.2.1.1<=gram;omega⟩,by show 0<=x.2.2.1.2;omega,h2.2.2⟩,⟨hc,⟨by show 1<=x.2.1.2;omega,h1.2.2⟩,h2.1,by show x.2.2.1.1<=gram;omega⟩⟩
end Go.Tt
