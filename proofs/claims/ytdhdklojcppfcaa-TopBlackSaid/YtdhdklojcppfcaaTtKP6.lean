/-
  What is truly in a batch lies within what is told of it; the curve is monotonous. Plain Lean.
-/
import Derived.Test.YtdhdklojcppfcaaTtKP4
set_option linter.all false
set_option maxRecDepth 100000
set_option maxHeartbeats 4000000
open Int renaming add_mul->ydP,le_of_mul_le_mul_right->ydR,le_refl->ydy,le_trans->yaV,mul_assoc->ydT,mul_comm->ydU,mul_le_mul_of_nonneg_right->yds,mul_nonneg->ydS,mul_right_comm->ydQ,neg_mul->ydW,tdiv_eq_ediv_of_nonneg->ydO,toNat_natCast->ydx
open List renaming mem_map->ycp
open Nat renaming add_sub_cancel->ydV
namespace Go.Tt
open Go Go.Sx
theorem up_ge {f:Int × Int} (h:FraOk f):f.1<=zaZ f*f.2:=by
 have h1:=h.under
 have h2:=h.top
 rw [zaZ,ydO (by omega)]
 have:=Int.lt_ediv_add_one_mul_self (f.1+f.2 - 1) (show 0<f.2 by omega)
 rw [ydP] at this
 omega
theorem up_le {f:Int × Int} (h:FraOk f) {q:Int} (hq:f.1<=q*f.2):zaZ f<=q:=by
 have h1:=h.under
 have h2:=h.top
 rw [zaZ,ydO (by omega)]
 have:(f.1+f.2 - 1) / f.2<q+1:=Int.ediv_lt_of_lt_mul (by omega) (by rw [ydP];omega)
 omega
theorem down_le {f:Int × Int} (h:FraOk f):zax f*f.2<=f.1:=by
 have h1:=h.under
 have h2:=h.top
 rw [zax,ydO (by omega)]
 exact Int.ediv_mul_le _ (by omega)
theorem down_ge {f:Int × Int} (h:FraOk f) {q:Int} (hq:q*f.2<=f.1):q<=zax f:=by
 have h1:=h.under
 have h2:=h.top
 rw [zax,ydO (by omega)]
 exact Int.le_ediv_of_mul_le (by omega) hq
def FLe (f g:Int × Int):Prop:=f.1*g.2<=g.1*f.2
theorem fle_cut {f g:Int × Int} (hf:FraOk f) (h:FLe f g) {q:Int} (hq:g.1<=q*g.2) (hg:FraOk g):f.1<=q*f.2:=by
 have h1:=hf.under
 have h2:=hg.under
 have m1:g.1*f.2<=q*g.2*f.2:=yds hq (by omega)
 have m2:f.1*g.2<=q*f.2*g.2:=by
  have e:q*g.2*f.2=q*f.2*g.2:=by rw [ydQ]
  have h:f.1*g.2<=g.1*f.2:=h
  omega
 exact ydR m2 (by omega)
theorem zkk {f g:Int × Int} (hf:FraOk f) (h:FLe f g) {q:Int} (hq:q*f.2<=f.1) (hg:FraOk g):q*g.2<=g.1:=by
 have h1:=hf.under
 have h2:=hg.under
 have m1:q*f.2*g.2<=f.1*g.2:=yds hq (by omega)
 have m2:q*g.2*f.2<=g.1*f.2:=by
  have e:q*g.2*f.2=q*f.2*g.2:=by rw [ydQ]
  have h:f.1*g.2<=g.1*f.2:=h
  omega
 exact ydR m2 (by omega)
theorem fle_up {f g:Int × Int} (hf:FraOk f) (hg:FraOk g) (h:FLe f g):zaZ f<=zaZ g:=up_le hf (fle_cut hf h (up_ge hg) hg)
theorem zmr {f g:Int × Int} (hf:FraOk f) (hg:FraOk g) (h:FLe f g):zax f<=zax g:=down_ge hg (zkk hf h (down_le hf) hg)
theorem fle_mix {f g:Int × Int} (hf:FraOk f) (hg:FraOk g) (h:FLe f g):zax f<=zaZ g:=by
 have h1:=zkk hf h (down_le hf) hg
 have h2:=up_ge hg
 have h3:=hg.under
 exact ydR (yaV h1 h2) (by omega)
theorem Curve.mono2 {c:List Tint} (h:Curve c):∀ (k i:Nat),i+k<c.length->(c.getD i (0,0)).2<=(c.getD (i+k) (0,0)).2
 | 0,i,_=>ydy _
 | k+1,i,hk=>by
  have h1:=h.mono2 k i (by omega)
  have h2:=(h.up (i+k) (by omega)).2
  have:(c.getD (i+(k+1)) (0,0)).2=(c.getD (i+k+1) (0,0)).2:=rfl
  omega
theorem zlt {a1 a2 b1 b2 g A g' A':Int} (hw:0<=b1 - a1) (hd:0<=b2 - a2) (h:g*A'<=g'*A) :
  (a2*(b1 - a1)*A+(b2 - a2)*(1000*g - a1*A))*((b1 - a1)*A')<=(a2*(b1 - a1)*A'+(b2 - a2)*(1000*g' - a1*A'))*((b1 - a1)*A):=by
 have hn:0<=(b2 - a2)*(b1 - a1)*(g'*A - g*A'):=ydS (ydS hd hw) (by omega)
 have e:(a2*(b1 - a1)*A'+(b2 - a2)*(1000*g' - a1*A'))*((b1 - a1)*A) - (a2*(b1 - a1)*A+(b2 - a2)*(1000*g - a1*A))*((b1 - a1)*A')=1000*((b2 - a2)*(b1 - a1)*(g'*A - g*A')):=by grind
 omega
theorem frac_hi {a1 a2 b1 b2 g A:Int} (hd:0<=b2 - a2) (h:1000*g<=b1*A):a2*(b1 - a1)*A+(b2 - a2)*(1000*g - a1*A)<=b2*((b1 - a1)*A):=by
 have hn:0<=(b2 - a2)*(b1*A - 1000*g):=ydS hd (by omega)
 have e:b2*((b1 - a1)*A) - (a2*(b1 - a1)*A+(b2 - a2)*(1000*g - a1*A))=(b2 - a2)*(b1*A - 1000*g):=by grind
 omega
theorem frac_lo {a1 a2 b1 b2 g A:Int} (hd:0<=b2 - a2) (h:a1*A<=1000*g):a2*((b1 - a1)*A)<=a2*(b1 - a1)*A+(b2 - a2)*(1000*g - a1*A):=by
 have hn:0<=(b2 - a2)*(1000*g - a1*A):=ydS hd (by omega)
 have e:a2*((b1 - a1)*A)=a2*(b1 - a1)*A:=by rw [ydT]
 omega
theorem at_eq (m:Mix) {i:Nat} (h:1<=i):atAt m (i:Nat)=((m.1.getD (i - 1) (0,0)).2*((m.1.getD i (0,0)).1 - (m.1.getD (i - 1) (0,0)).1)*(m.2.1+m.2.2)+((m.1.getD i (0,0)).2 - (m.1.getD (i - 1) (0,0)).2)*(1000*m.2.1 - (m.1.getD (i - 1) (0,0)).1*(m.2.1+m.2.2)),((m.1.getD i (0,0)).1 - (m.1.getD (i - 1) (0,0)).1)*(m.2.1+m.2.2)):=by
 simp only [atAt,show ((i:Int) - 1).toNat=i - 1 by omega,ydx]
theorem zga {c:List Tint} (C:Curve c) {g k g' k':Int} {i j:Nat} (B:Brk (c,g,k) i) (D:Brk (c,g',k') j) (h1:1<=g+k) (h2:1<=g'+k') (h:g*(g'+k')<=g'*(g+k)):FLe (atAt (c,g,k) (i:Nat)) (atAt (c,g',k') (j:Nat)):=by
 obtain ⟨⟨w1,w2⟩,_,b1,b2,b3⟩:=C.pair B.i1 B.i2
 obtain ⟨⟨v1,v2⟩,_,d1,d2,d3⟩:=C.pair D.i1 D.i2
 have lo1:=B.lo
 have hi1:=B.hi
 have lo2:=D.lo
 have hi2:=D.hi
 have i1:=B.i1
 have i2:=B.i2
 have j1:=D.i1
 have j2:=D.i2
 dsimp only at *
 rw [at_eq _ i1,at_eq _ j1,FLe]
 dsimp only
 rcases Nat.lt_trichotomy i j with hij | hij | hij
 ·have hm:=C.mono2 (j - 1 - i) i (by omega)
  rw [show i+(j - 1 - i)=j - 1 by omega] at hm
  have q1:=frac_hi (a1:=(c.getD (i - 1) (0,0)).1) (a2:=(c.getD (i - 1) (0,0)).2) (b1:=(c.getD i (0,0)).1) (b2:=(c.getD i (0,0)).2) (g:=g) (A:=g+k) (by omega) hi1
  have q2:=frac_lo (a1:=(c.getD (j - 1) (0,0)).1) (a2:=(c.getD (j - 1) (0,0)).2) (b1:=(c.getD j (0,0)).1) (b2:=(c.getD j (0,0)).2) (g:=g') (A:=g'+k') (by omega) lo2
  have u1:0<=((c.getD i (0,0)).1 - (c.getD (i - 1) (0,0)).1)*(g+k):=ydS (by omega) (by omega)
  have u2:0<=((c.getD j (0,0)).1 - (c.getD (j - 1) (0,0)).1)*(g'+k'):=ydS (by omega) (by omega)
  generalize ((c.getD i (0,0)).1 - (c.getD (i - 1) (0,0)).1)*(g+k)=U at *
  generalize ((c.getD j (0,0)).1 - (c.getD (j - 1) (0,0)).1)*(g'+k')=U' at *
  refine yaV (yds q1 u2) (yaV ?_ (yds q2 u1))
  have e:(c.getD (j - 1) (0,0)).2*U'*U=(c.getD (j - 1) (0,0)).2*U*U':=ydQ _ _ _
  rw [e]
  exact yds (yds hm u1) u2
 ·subst hij
  exact zlt (by omega) (by omega) h
 ·have hm:=C.mono (i - 1 - j) j (by omega)
  rw [show j+(i - 1 - j)=i - 1 by omega] at hm
  have AA:0<(g+k)*(g'+k'):=Int.mul_pos (by omega) (by omega)
  have e1:(c.getD (i - 1) (0,0)).1*(g+k)*(g'+k')<=1000*g*(g'+k'):=yds lo1 (by omega)
  have e2:1000*g'*(g+k)<=(c.getD j (0,0)).1*(g'+k')*(g+k):=yds hi2 (by omega)
  have e3:1000*g*(g'+k')<=1000*g'*(g+k):=by rw [ydT,ydT];omega
  have e4:(c.getD j (0,0)).1*(g'+k')*(g+k)=(c.getD j (0,0)).1*((g+k)*(g'+k')):=by rw [ydT,ydU (g'+k')]
  have e5:(c.getD (i - 1) (0,0)).1*(g+k)*(g'+k')=(c.getD (i - 1) (0,0)).1*((g+k)*(g'+k')):=by rw [ydT]
  have e6:(c.getD (i - 1) (0,0)).1<=(c.getD j (0,0)).1:=ydR (a:=(g+k)*(g'+k')) (by omega) AA
  have hp:(c.getD (i - 1) (0,0)).1=(c.getD j (0,0)).1:=by omega
  have hji:j=i - 1:=by
   rcases Nat.lt_or_ge j (i - 1) with hh | hh
   ·have s1:=(C.up j (by omega)).1
    have s2:=C.mono (i - 1 - (j+1)) (j+1) (by omega)
    rw [show j+1+(i - 1 - (j+1))=i - 1 by omega] at s2
    omega
   ·omega
  have z1:1000*g<=(c.getD (i - 1) (0,0)).1*(g+k):=ydR (a:=g'+k') (by rw [hp] at e5 ⊢;omega) (by omega)
  have z2:(c.getD j (0,0)).1*(g'+k')<=1000*g':=ydR (a:=g+k) (by rw [hp] at e1 e5;omega) (by omega)
  subst hji
  have t1:1000*g - (c.getD (i - 1) (0,0)).1*(g+k)=0:=by omega
  have t2:1000*g'=(c.getD (i - 1) (0,0)).1*(g'+k'):=by omega
  rw [t1,t2]
  refine Int.le_of_eq ?_
  grind
theorem srch_is {f:Int->Bool} {N:Int}:∀ (n:Nat) (i j:Int),i<=j->j - i<=n->(i=0\/f (i - 1)=false)->(j=N\/f j=true)->(srch f n i j=0\/f (srch f n i j - 1)=false)/\(srch f n i j=N\/f (srch f n i j)=true)
 | 0,i,j,h,hn,h1,h2=>by
  have:j=i:=by omega
  subst this
  exact ⟨h1,h2⟩
 | n+1,i,j,h,hn,h1,h2=>by
  rw [srch]
  cases hd:decide (i<j) with
  | false =>
   have:=of_decide_eq_false hd
   have:j=i:=by omega
   subst this
   exact ⟨h1,h2⟩
  | true =>
   have hl:=of_decide_eq_true hd
   have e:Int.fdiv (i+j) 2=(i+j) / 2:=Int.fdiv_eq_ediv_of_nonneg _ (by decide)
   rw [cond_true,e]
   cases hv:f ((i+j) / 2) with
   | true=>rw [cond_true];exact srch_is n i _ (by omega) (by omega) h1 (.inr hv)
   | false=>rw [cond_false];exact srch_is n _ j (by omega) (by omega) (.inr (by rw [Int.add_sub_cancel];exact hv)) h2
theorem zlU {m:Mix} (h:MixOk m):Brk m ((cutS m).toNat+1)/\zad m=atAt m ((cutS m).toNat+1:Nat):=by
 have C:=zcQ h.curve
 have B:=zib h
 have l2:=C.l2
 have hg:=h.g
 have hc:=h.c
 have c0:=B.c0
 have c1:=B.c1
 obtain ⟨s1,s2⟩:=srch_is (f:=(reachF m).val) (N:=(m.1.length:Int) - 2) ((m.1.length:Int) - 2).toNat 0 ((m.1.length:Int) - 2) (by omega) (by omega) (.inl rfl) (.inl rfl)
 have s1:cutS m=0\/reachB m (cutS m - 1)=false:=s1
 have s2:cutS m=(m.1.length:Int) - 2\/reachB m (cutS m)=true:=s2
 obtain ⟨q,hq⟩:∃ q:Nat,cutS m=(q:Int):=⟨(cutS m).toNat,by omega⟩
 rw [hq] at s1 s2 c1
 have eb:zad m=((m.1.getD (cutS m).toNat (0,0)).2*((m.1.getD (cutS m+1).toNat (0,0)).1 - (m.1.getD (cutS m).toNat (0,0)).1)*(m.2.1+m.2.2)+((m.1.getD (cutS m+1).toNat (0,0)).2 - (m.1.getD (cutS m).toNat (0,0)).2)*(1000*m.2.1 - (m.1.getD (cutS m).toNat (0,0)).1*(m.2.1+m.2.2)),((m.1.getD (cutS m+1).toNat (0,0)).1 - (m.1.getD (cutS m).toNat (0,0)).1)*(m.2.1+m.2.2)):=rfl
 rw [eb,hq,ydx,show ((q:Int)+1).toNat=q+1 by omega,at_eq _ (by omega),ydV]
 refine ⟨⟨by omega,by omega,?_,?_⟩,rfl⟩
 ·rw [ydV]
  rcases s1 with e | e
  ·have:q=0:=by omega
   rw [this,C.r0];omega
  ·have e:=of_decide_eq_false e
   by_cases h0:q=0
   ·rw [h0,C.r0];omega
   ·rw [show ((q:Int) - 1+1).toNat=q by omega] at e
    omega
 ·rcases s2 with e | e
  ·have:q+1=m.1.length - 1:=by omega
   rw [this,C.r1];omega
  ·have e:=of_decide_eq_true e
   rw [show ((q:Int)+1).toNat=q+1 by omega] at e
   exact e
end Go.Tt
/-
 What is truly in a batch lies within what is added up. Plain Lean.
-/
namespace Go.Tt
open Go Go.Sx
structure Aff3 (f:StaS->Int):Prop where
 w:∀ c n,∃ p q,∀ w,f (w,c,n)=p+q*w
 c:∀ w n,∃ p q,∀ c,f (w,c,n)=p+q*c
 n:∀ w c,∃ p q,∀ n,f (w,c,n)=p+q*n
theorem aff_le {p q a b x L:Int} (h1:a<=x) (h2:x<=b) (ha:L<=p+q*a) (hb:L<=p+q*b):L<=p+q*x:=by
 by_cases h:0<=q
 ·have:=Int.mul_le_mul_of_nonneg_left h1 h;omega
 ·have:=Int.mul_le_mul_of_nonpos_left (a:=q) (by omega) h2;omega
theorem zkq:Aff3 coalV:=by
 refine ⟨fun c n=>⟨1000*c*1000,-(c*1000),fun w=>?_⟩,fun w n=>⟨0,(1000 - w)*1000,fun c=>?_⟩,fun w c=>⟨(1000 - w)*c*1000,0,fun n=>?_⟩⟩
 ·show (1000 - w)*c*1000=_;grind
 ·show (1000 - w)*c*1000=_;grind
 ·show (1000 - w)*c*1000=_;grind
theorem zjj:Aff3 bakedV:=by
 refine ⟨fun c n=>⟨1000*(1000 - c)*(1000 - n),-((1000 - c)*(1000 - n)),fun w=>?_⟩,fun w n=>⟨(1000 - w)*1000*(1000 - n),-((1000 - w)*(1000 - n)),fun c=>?_⟩,fun w c=>⟨(1000 - w)*(1000 - c)*1000,-((1000 - w)*(1000 - c)),fun n=>?_⟩⟩
 ·show (1000 - w)*(1000 - c)*(1000 - n)=_;grind
 ·show (1000 - w)*(1000 - c)*(1000 - n)=_;grind
 ·show (1000 - w)*(1000 - c)*(1000 - n)=_;grind
theorem Aff3.lin {f g:StaS->Int} (hf:Aff3 f) (hg:Aff3 g) (a b:Int):Aff3 fun s=>a*f s+b*g s:=by
 refine ⟨fun c n=>?_,fun w n=>?_,fun w c=>?_⟩
 ·obtain ⟨p,q,h⟩:=hf.w c n
  obtain ⟨p',q',h'⟩:=hg.w c n
  exact ⟨a*p+b*p',a*q+b*q',fun x=>by simp only [h,h'];grind⟩
 ·obtain ⟨p,q,h⟩:=hf.c w n
  obtain ⟨p',q',h'⟩:=hg.c w n
  exact ⟨a*p+b*p',a*q+b*q',fun x=>by simp only [h,h'];grind⟩
 ·obtain ⟨p,q,h⟩:=hf.n w c
  obtain ⟨p',q',h'⟩:=hg.n w c
  exact ⟨a*p+b*p',a*q+b*q',fun x=>by simp only [h,h'];grind⟩
theorem zmf (n:Int):Aff3 (overV n):=by
 have h:=zkq.lin zjj (1000 - n) (-n)
 have e:(fun s=>(1000 - n)*coalV s+-n*bakedV s)=overV n:=by
  funext s
  simp only [overV,leadV];grind
 rw [e] at h;exact h
theorem Aff3.scale {f:StaS->Int} (hf:Aff3 f) (a:Int):Aff3 fun s=>a*f s:=by
 have h:=hf.lin hf a 0
 have e:(fun s=>a*f s+0*f s)=fun s=>a*f s:=by funext s;omega
 rw [e] at h;exact h
def InSack (x:SackS) (s:StaS):Prop:=(x.1.1<=s.1/\s.1<=x.1.2)/\(x.2.1.1<=s.2.1/\s.2.1<=x.2.1.2)/\(x.2.2.1<=s.2.2/\s.2.2<=x.2.2.2)
theorem box_le {f:StaS->Int} (hf:Aff3 f) {x:SackS} {L:Int} (h:∀ i,i<8->L<=f (corN x i)) {s:StaS} (hs:InSack x s):L<=f s:=by
 obtain ⟨w,c,n⟩:=s
 obtain ⟨⟨w1,w2⟩,⟨c1,c2⟩,n1,n2⟩:=hs
 dsimp only at w1 w2 c1 c2 n1 n2
 have atN:∀ w c,L<=f (w,c,x.2.2.1)->L<=f (w,c,x.2.2.2)->L<=f (w,c,n):=fun w c ha hb=>by
  obtain ⟨p,q,e⟩:=hf.n w c
  rw [e] at ha hb ⊢
  exact aff_le n1 n2 ha hb
 have atC:∀ w n,L<=f (w,x.2.1.1,n)->L<=f (w,x.2.1.2,n)->L<=f (w,c,n):=fun w n ha hb=>by
  obtain ⟨p,q,e⟩:=hf.c w n
  rw [e] at ha hb ⊢
  exact aff_le c1 c2 ha hb
 have atW:∀ c n,L<=f (x.1.1,c,n)->L<=f (x.1.2,c,n)->L<=f (w,c,n):=fun c n ha hb=>by
  obtain ⟨p,q,e⟩:=hf.w c n
  rw [e] at ha hb ⊢
  exact aff_le w1 w2 ha hb
 exact atN _ _ (atC _ _ (atW _ _ (h 0 (by omega)) (h 4 (by omega))) (atW _ _ (h 2 (by omega)) (h 6 (by omega)))) (atC _ _ (atW _ _ (h 1 (by omega)) (h 5 (by omega))) (atW _ _ (h 3 (by omega)) (h 7 (by omega))))
theorem in_ok {x:SackS} (h:sackB x=true) {s:StaS} (hs:InSack x s):StaOk s:=by
 obtain ⟨h1,h2,h3⟩:=sack_of h
 obtain ⟨h4,h5,h6⟩:=hs
 exact ⟨by omega,by omega,by omega⟩
theorem zlY {n:Nat} {f:Nat->Int} {k:Nat} (hk:k<n) (h:∀ i,i<n->i≠k->f i=0):sumN n f=f k:=by
 have e:=zjP (n:=n) (k:=k) (f:=f) (g:=fun _=>0) h
 rw [if_pos hk,zel] at e
 omega
theorem zmj {α:Type} (f:α->Int) (d:α) (l:List α):(l.map f).sum=sumN l.length fun i=>f (l.getD i d):=by
 rw [sumN]
 congr 1
 refine List.ext_getElem (by simp) fun i h1 h2=>?_
 have hi:i<l.length:=by simpa using h1
 simp [List.getD,hi]
theorem zjK (p:TakeS->Int) (k:Int) (b:List TakeS):wSum p k b=sumN b.length fun i=>cond ((b.getD i zTa).1==k) (p (b.getD i zTa)) 0:=zmj (fun t=>cond (keyB k t) (p t) 0) zTa b
section
variable {l:List SackS} {b:List TakeS}
def ownW (b:List TakeS) (m:Nat->Int) (k:Int):Int:=sumN b.length fun i=>cond ((b.getD i zTa).1==k) (m i) 0
def InTake (b:List TakeS) (m:Nat->Int):Prop:=∀ i,i<b.length->(b.getD i zTa).2.1<=m i/\m i<=(b.getD i zTa).2.2
theorem own_bd {m:Nat->Int} (hm:InTake b m) (k:Int):wSum (fun t=>t.2.1) k b<=ownW b m k/\ownW b m k<=wSum (fun t=>t.2.2) k b:=by
 rw [zjK,zjK,ownW]
 constructor
 ·refine sumN_le fun i hi=>?_
  have:=hm i hi
  cases ((b.getD i zTa).1==k) with
  | true=>exact this.1
  | false=>exact ydy _
 ·refine sumN_le fun i hi=>?_
  have:=hm i hi
  cases ((b.getD i zTa).1==k) with
  | true=>exact this.2
  | false=>exact ydy _
theorem own_sum (B:BatchIs l b) (m:Nat->Int) (f:StaS->Int) (st:Nat->StaS):(sumN b.length fun i=>m i*f (st (b.getD i zTa).1.toNat))=sumN 8 fun k=>ownW b m (k:Nat)*f (st k):=by
 have e:(sumN 8 fun k=>ownW b m (k:Nat)*f (st k))=sumN 8 fun k=>sumN b.length fun i=>cond ((b.getD i zTa).1==(k:Nat)) (m i) 0*f (st k):=by
  refine zem fun k _=>?_
  rw [ownW]
  have key:∀ (n:Nat) (g:Nat->Int) (y:Int),sumN n g*y=sumN n fun i=>g i*y:=by
   intro n g y
   induction n with
   | zero=>simp [sumN]
   | succ n ih=>rw [zau,zau,ydP,ih]
  exact key _ _ _
 rw [e,zlh]
 refine zem fun i hi=>?_
 have ht:=(B.take _ (zbv b zTa i hi)).1
 have l8:=B.l8
 have:=zlY (n:=8) (f:=fun k=>cond ((b.getD i zTa).1==(k:Nat)) (m i) 0*f (st k)) (k:=(b.getD i zTa).1.toNat) (by omega) fun k hk hne=>by
  have:((b.getD i zTa).1==((k:Nat):Int))=false:=by
   rw [beq_eq_false_iff_ne];omega
  simp only [this,cond_false,Int.zero_mul]
 rw [this]
 have h2:((b.getD i zTa).1==(((b.getD i zTa).1.toNat:Nat):Int))=true:=by
  rw [beq_iff_eq];omega
 rw [h2];rfl
theorem zmd {m:Nat->Int} {k:Int} (h:b.any (keyB k)=false) (hm:InTake b m):ownW b m k=0:=by
 have:=own_bd hm k
 rw [zdu h,zdu h] at this
 omega
theorem part_le {f:StaS->Int} (hf:Aff3 f) {m:Nat->Int} (hm:InTake b m) {k:Nat} {s:StaS} (hs:b.any (keyB (k:Nat))=true->InSack (l.getD k zSa) s):(partS (newK l b) f k).1<=ownW b m (k:Nat)*f s/\ownW b m (k:Nat)*f s<=(partS (newK l b) f k).2:=by
 rw [partS,new_at]
 cases ha:b.any (keyB (k:Nat)) with
 | false =>
  rw [zmd ha hm]
  simp
 | true =>
  have hs:=hs ha
  obtain ⟨o1,o2⟩:=own_bd hm (k:Nat)
  simp only [cond_true,ydx]
  have A:=adds_is (wSum (fun t=>t.2.1) (k:Nat) b,wSum (fun t=>t.2.2) (k:Nat) b) (cor_ne (l.getD k zSa,wSum (fun t=>t.2.1) (k:Nat) b,wSum (fun t=>t.2.2) (k:Nat) b) f)
  generalize addsV (wSum (fun t=>t.2.1) (k:Nat) b,wSum (fun t=>t.2.2) (k:Nat) b) ((corS (l.getD k zSa,wSum (fun t=>t.2.1) (k:Nat) b,wSum (fun t=>t.2.2) (k:Nat) b)).map f)=P at A
  have mem:∀ i,i<8->f (corN (l.getD k zSa) i)∈(corS (l.getD k zSa,wSum (fun t=>t.2.1) (k:Nat) b,wSum (fun t=>t.2.2) (k:Nat) b)).map f:=fun i hi=>List.mem_map_of_mem (ycp.2 ⟨i,List.mem_range.2 hi,rfl⟩)
  constructor
  ·refine box_le (hf.scale (ownW b m (k:Nat))) (fun i hi=>?_) hs
   have:=A.lo _ (mem i hi)
   simp only [lowV] at this
   have:=aff_le (p:=0) (q:=f (corN (l.getD k zSa) i)) (L:=P.1) o1 o2 (by rw [ydU];omega) (by rw [ydU];omega)
   rw [ydU];omega
  ·have h:=box_le (L:=-P.2) (hf.scale (-(ownW b m (k:Nat)))) (fun i hi=>?_) hs
   ·have e:-(ownW b m (k:Nat))*f s=-(ownW b m (k:Nat)*f s):=ydW _ _
    rw [e] at h
    omega
   ·have:=A.hi _ (mem i hi)
    simp only [higV] at this
    have:=aff_le (p:=0) (q:=-f (corN (l.getD k zSa) i)) (L:=-P.2) o1 o2 (by rw [ydW,ydU];omega) (by rw [ydW,ydU];omega)
    rw [ydW,ydU] at this
    rw [ydW];omega
theorem sum_in (B:BatchIs l b) {f:StaS->Int} (hf:Aff3 f) {m:Nat->Int} (hm:InTake b m) {st:Nat->StaS} (hs:∀ k,k<l.length->InSack (l.getD k zSa) (st k)):(sumS (newK l b) f).1<=(sumN b.length fun i=>m i*f (st (b.getD i zTa).1.toNat))/\(sumN b.length fun i=>m i*f (st (b.getD i zTa).1.toNat))<=(sumS (newK l b) f).2:=by
 rw [own_sum B]
 have key:=fun k=>part_le hf hm (l:=l) (k:=k) (s:=st k) fun ha=>by
  obtain ⟨y,hy,e⟩:=List.any_eq_true.1 ha
  have e:y.1=(k:Nat):=eq_of_beq e
  have:=(B.take y hy).1
  exact hs k (by omega)
 exact ⟨sumN_le fun k _=>(key k).1,sumN_le fun k _=>(key k).2⟩
theorem sum_nn (B:BatchIs l b) {f:StaS->Int} (hf:∀ s,StaOk s->0<=f s):0<=(sumS (newK l b) f).1:=by
 have ok:=new_ok B
 refine zjr fun k _=>?_
 rw [partS]
 cases e:newK l b (k:Nat) with
 | none=>exact ydy _
 | some v =>
  obtain ⟨n,hn,e2⟩:=(adds_is v.2 (cor_ne v f)).lm
  obtain ⟨s,hs,rfl⟩:=ycp.1 hn
  have h0:=hf s (cor_ok (ok.val _ v e).sack s hs)
  have hw:=(ok.val _ v e).wt
  have m1:=ydS hw.1.1 h0
  have m2:=ydS (show 0<=v.2.2 by omega) h0
  show 0<=(addsV v.2 ((corS v).map f)).1
  rw [e2,lowV];omega
theorem sum_top (B:BatchIs l b) {f:StaS->Int} (hf:∀ s,StaOk s->0<=f s/\f s<=1000000000):(sumS (newK l b) f).2<=6400000000000000:=by
 have ok:=new_ok B
 have key:∀ k:Nat,(partS (newK l b) f k).2<=800000000000000:=by
  intro k
  rw [partS]
  cases e:newK l b (k:Nat) with
  | none=>show (0:Int)<=_;omega
  | some v =>
   obtain ⟨n,hn,e2⟩:=(adds_is v.2 (cor_ne v f)).hm
   obtain ⟨s,hs,rfl⟩:=ycp.1 hn
   have h0:=hf s (cor_ok (ok.val _ v e).sack s hs)
   have hw:=(ok.val _ v e).wt
   have m1:=mul_bd (A:=800000) (B:=1000000000) (a:=v.2.1) ⟨hw.1.1,by omega⟩ h0
   have m2:=mul_bd (A:=800000) (B:=1000000000) (a:=v.2.2) ⟨by omega,hw.2⟩ h0
   show (addsV v.2 ((corS v).map f)).2<=_
   rw [e2,higV];omega
 have h:=sumN_le (n:=8) (f:=fun k=>(partS (newK l b) f k).2) (g:=fun _=>800000000000000) fun k _=>key k
 have e:sumN 8 (fun _=>(800000000000000:Int))=6400000000000000:=by decide
 rw [e] at h
 exact h
end
end Go.Tt
