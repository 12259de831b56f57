/-
  Chapter 10: what is pushed through a market. Plain Lean; no program in sight.
-/
import Derived.Test.YtdhdklojcppfcaaTtOSpec
set_option linter.all false
set_option maxRecDepth 100000
set_option maxHeartbeats 1000000
set_option linter.unusedVariables false
open Int renaming one_mul->ydv,toNat_natCast->ydw
open List renaming countP_cons->ydy,countP_mono_left->ydx,getD->yda,getElem?_set_ne->ybY,mem_cons_of_mem->yal,replicate->yaa
namespace Go.Tt
open Go Go.Sx
def sumN (n:Nat) (f:Nat->Int):Int:=((List.range n).map f).sum
theorem zel (f:Nat->Int):sumN 0 f=0:=rfl
theorem zaq (n:Nat) (f:Nat->Int):sumN (n+1) f=sumN n f+f n:=by
 simp [sumN,List.range_succ]
theorem zaA {n:Nat} {f g:Nat->Int} (h:∀ i,i<n->f i=g i):sumN n f=sumN n g:=by
 induction n with
 | zero=>rfl
 | succ n ih=>rw [zaq,zaq,ih fun i hi=>h i (by omega),h n (by omega)]
theorem zkk (n:Nat) (f g:Nat->Int):sumN n (fun i=>f i+g i)=sumN n f+sumN n g:=by
 induction n with
 | zero=>rfl
 | succ n ih=>rw [zaq,zaq,zaq,ih];omega
theorem zmQ (n:Nat) (f g:Nat->Int):sumN n (fun i=>f i - g i)=sumN n f - sumN n g:=by
 induction n with
 | zero=>rfl
 | succ n ih=>rw [zaq,zaq,zaq,ih];omega
theorem sumN_le {n:Nat} {f g:Nat->Int} (h:∀ i,i<n->f i<=g i):sumN n f<=sumN n g:=by
 induction n with
 | zero=>exact Int.le_refl _
 | succ n ih =>
  have:=ih fun i hi=>h i (by omega)
  have:=h n (by omega)
  rw [zaq,zaq];omega
theorem zbl (n:Nat):sumN n (fun _=>0)=0:=by
 induction n with
 | zero=>rfl
 | succ n ih=>rw [zaq,ih];rfl
theorem zbc {n:Nat} {f:Nat->Int} (h:∀ i,i<n->0<=f i):0<=sumN n f:=by
 have:=sumN_le h
 rwa [zbl] at this
theorem sumN_ge {n:Nat} {f:Nat->Int} (h:∀ i,i<n->0<=f i) {k:Nat} (hk:k<n):f k<=sumN n f:=by
 induction n with
 | zero=>omega
 | succ n ih =>
  rw [zaq]
  by_cases e:k=n
  ·subst e
   have:=zbc fun i (hi:i<k)=>h i (by omega)
   omega
  ·have:=ih (fun i hi=>h i (by omega)) (by omega)
   have:=h n (by omega)
   omega
theorem zeD {n:Nat} {f g:Nat->Int} {k:Nat} (h:∀ i,i<n->i≠k->f i=g i):sumN n f=sumN n g+if k<n then f k - g k else 0:=by
 induction n with
 | zero=>simp [zel]
 | succ n ih =>
  rw [zaq,zaq,ih fun i hi=>h i (by omega)]
  by_cases e:k=n
  ·subst e
   simp
   omega
  ·rw [h n (by omega) fun e'=>e e'.symm]
   by_cases hk:k<n
   ·rw [if_pos hk,if_pos (by omega)];omega
   ·rw [if_neg hk,if_neg (by omega)];omega
theorem zg (n m:Nat) (f:Nat->Nat->Int):sumN n (fun i=>sumN m (f i))=sumN m (fun k=>sumN n (fun i=>f i k)):=by
 induction n with
 | zero=>simp only [zel];exact (zbl m).symm
 | succ n ih =>
  simp only [zaq,zkk]
  rw [ih]
theorem zim (p:Nat->Bool):∀ (l:List Int) (k:Nat),selS p l k=sumN l.length fun i=>cond (p (k+i)) (l.getD i 0) 0
 | [],k=>rfl
 | a::l,k=>by
  have shift:∀ (n:Nat) (f:Nat->Int),sumN (n+1) f=f 0+sumN n fun i=>f (i+1):=by
   intro n f
   induction n with
   | zero=>simp [sumN]
   | succ n ih=>rw [zaq,ih,zaq];omega
  rw [List.length_cons,shift,selS,zim p l (k+1)]
  have:(fun i=>cond (p (k+1+i)) (l.getD i 0) (0:Int))=fun i=>cond (p (k+(i+1))) ((a::l).getD (i+1) 0) 0:=by
   funext i
   rw [show k+1+i=k+(i+1) from by omega]
   rfl
  rw [this];rfl
theorem has_or {s:Int} {k j:Nat}:hasB ((s.toNat ||| (1*2^((k:Nat):Int).toNat:Int).toNat:Nat):Int) (j:Nat)=(hasB s (j:Nat)||decide (k=j)):=by
 have e:(1*2^((k:Nat):Int).toNat:Int).toNat=2^k:=by
  rw [ydv,ydw]
  have:(2^k:Int)=((2^k:Nat):Int):=by simp
  rw [this,ydw]
 rw [e]
 simp only [hasB,ydw,Nat.testBit_or,Nat.testBit_two_pow]
theorem zkt {s:Int} {k:Nat} (hs:smallSet s) (hk:k<8):smallSet ((s.toNat ||| (1*2^((k:Nat):Int).toNat:Int).toNat:Nat):Int):=by
 have e:(1*2^((k:Nat):Int).toNat:Int).toNat=2^k:=by
  rw [ydv,ydw]
  have:(2^k:Int)=((2^k:Nat):Int):=by simp
  rw [this,ydw]
 rw [e]
 have h1:s.toNat<2^8:=by simp only [smallSet] at hs;omega
 have h2:2^k<2^8:=Nat.pow_lt_pow_right (by decide) hk
 have:=Nat.or_lt_two_pow h1 h2
 simp only [smallSet]
 omega
theorem zeN {g:List (List Int)} (h8:g.length=8) (hr:∀ r∈g,r.length=8) {i k:Nat} (hi:i<8) (hk:k<8) (v:Int) (j m:Nat) :
  getG (setG g (i:Nat) (k:Nat) v) (j:Nat) (m:Nat)=if j=i/\m=k then v else getG g (j:Nat) (m:Nat):=by
 have hrow:(g.getD i (yaa 8 0)).length=8:=by
  have:g.getD i (yaa 8 0)∈g:=zan g _ i (by omega)
  exact hr _ this
 simp only [getG,setG,ydw]
 by_cases e:j=i
 ·subst e
  have:(g.set j ((g.getD j (yaa 8 0)).set k v)).getD j (yaa 8 0)=(g.getD j (yaa 8 0)).set k v:=by
   simp [yda,show j<g.length from by omega]
  rw [this]
  by_cases e2:m=k
  ·subst e2
   have hm:m<(g.getD j (yaa 8 0)).length:=by omega
   rw [if_pos ⟨rfl,rfl⟩]
   have key:∀ l:List Int,m<l.length->(l.set m v).getD m 0=v:=fun l hl=>by simp [yda,hl]
   exact key _ hm
  ·rw [if_neg fun h=>e2 h.2]
   simp only [yda]
   rw [ybY (fun h=>e2 h.symm)]
 ·rw [if_neg fun h=>e h.1]
  have:(g.set i ((g.getD i (yaa 8 0)).set k v)).getD j (yaa 8 0)=g.getD j (yaa 8 0):=by
   simp only [yda]
   rw [ybY (fun h=>e h.symm)]
  rw [this]
theorem zfb {g:List (List Int)} (h8:g.length=8) (hr:∀ r∈g,r.length=8) {i k:Nat} (hi:i<8) (v:Int) :
  (setG g (i:Nat) (k:Nat) v).length=8/\∀ r∈setG g (i:Nat) (k:Nat) v,r.length=8:=by
 refine ⟨by simp [setG,h8],fun r hm=>?_⟩
 rcases List.mem_or_eq_of_mem_set hm with h | h
 ·exact hr r h
 ·rw [h,List.length_set]
  simp only [ydw]
  exact hr _ (zan g _ i (by omega))
theorem zn {g:List (List Int)} (h8:g.length=8) (hr:∀ r∈g,r.length=8) {i k:Nat} (hi:i<8) (hk:k<8) (v:Int) (j:Nat) :
  rowS (setG g (i:Nat) (k:Nat) v) (j:Nat) 8=rowS g (j:Nat) 8+if j=i then v - getG g (i:Nat) (k:Nat) else 0:=by
 show sumN 8 _=sumN 8 _+_
 rw [zeD (g:=fun m=>getG g (j:Nat) (m:Nat)) (k:=k)]
 ·rw [if_pos hk,zeN h8 hr hi hk]
  by_cases e:j=i
  ·subst e;rw [if_pos ⟨rfl,rfl⟩,if_pos rfl]
  ·rw [if_neg fun h=>e h.1,if_neg e];omega
 ·intro m _ hm
  rw [zeN h8 hr hi hk,if_neg fun h=>hm h.2]
theorem znr {g:List (List Int)} (h8:g.length=8) (hr:∀ r∈g,r.length=8) {i k:Nat} (hi:i<8) (hk:k<8) (v:Int) (m n:Nat) (hn:i<n) :
  colS (setG g (i:Nat) (k:Nat) v) (m:Nat) n=colS g (m:Nat) n+if m=k then v - getG g (i:Nat) (k:Nat) else 0:=by
 show sumN n _=sumN n _+_
 rw [zeD (g:=fun j=>getG g (j:Nat) (m:Nat)) (k:=i)]
 ·rw [if_pos hn,zeN h8 hr hi hk]
  by_cases e:m=k
  ·subst e;rw [if_pos ⟨rfl,rfl⟩,if_pos rfl]
  ·rw [if_neg fun h=>e h.2,if_neg e];omega
 ·intro j _ hj
  rw [zeN h8 hr hi hk,if_neg fun h=>hj h.1]
abbrev NN (f:Flow):Nat:=(mkt f.1).1.length
abbrev MM (f:Flow):Nat:=(mkt f.1).2.1.length
abbrev gg (f:Flow) (i k:Nat):Int:=getG f.2.1 (i:Nat) (k:Nat)
def seenB (f:Flow) (k:Nat):Bool:=hasB f.2.2.2 (k:Nat)
def openB (f:Flow) (i k:Nat):Bool:=hasB ((mkt f.1).2.2.getD i 0) (k:Nat)&&!hasB (f.2.2.1.getD i 0) (k:Nat)
structure Closed (f:Flow) (S:Nat->Prop):Prop where
 full:∀ k,k<NN f->S k->lackingV f (k:Nat)=0
 back:∀ k,k<NN f->S k->∀ j,j<MM f->0<gg f j k->∀ k',k'<NN f->openB f j k'=true->S k'
structure Mild (f f':Flow):Prop where
 mo:f'.1=f.1
 cl:f'.2.2.1=f.2.2.1
 sm:smallSet f'.2.2.2
 grow:∀ k,seenB f k=true->seenB f' k=true
structure Fail (f f':Flow) (i:Nat):Prop where
 giv:f'.2.1=f.2.1
 own:∀ k,k<NN f->openB f i k=true->seenB f' k=true
 done:∀ k,k<NN f->seenB f' k=true->seenB f k=false->lackingV f (k:Nat)=0/\∀ j,j<MM f->0<gg f j k->∀ k',k'<NN f->openB f j k'=true->seenB f' k'=true
structure Gain (f f':Flow) (i:Nat) (n:Int):Prop where
 g8:f'.2.1.length=8
 r8:∀ r∈f'.2.1,r.length=8
 pos:∀ j k,0<=gg f' j k
 can:∀ j k,0<gg f' j k->j<MM f/\k<NN f/\openB f j k=true
 row:∀ j:Nat,rowS f'.2.1 (j:Nat) 8=rowS f.2.1 (j:Nat) 8+if j=i then n else 0
 col:∀ k:Nat,k<NN f->colS f'.2.1 (k:Nat) (MM f)<=(mkt f.1).1.getD k 0
 old:∀ k,seenB f k=true->∀ j,gg f' j k=gg f j k
 cut:∀ S:Nat->Prop,Closed f S->(∃ k,k<NN f/\openB f i k=true/\¬ S k)/\∀ k,k<NN f->S k->∀ j,gg f' j k=gg f j k
structure Result (f:Flow) (i:Nat) (most:Int) (r:Int × Flow):Prop where
 mild:Mild f r.2
 nn:0<=r.1
 le:r.1<=most
 fail:r.1=0->Fail f r.2 i
 gain:0<r.1->Gain f r.2 i r.1
theorem FlowOk.n8 {f:Flow} (h:FlowOk f):NN f<=8:=h.mo.2.a8
theorem FlowOk.m8 {f:Flow} (h:FlowOk f):MM f<=8:=h.mo.2.m8
theorem FlowOk.op {f:Flow} (h:FlowOk f) {j k:Nat} (hp:0<gg f j k):j<MM f/\k<NN f/\openB f j k=true:=by
 obtain ⟨h1,h2,h3,h4⟩:=h.can j k hp
 exact ⟨h1,h2,by simp only [openB,h3,h4];rfl⟩
theorem FlowOk.other {f f':Flow} (h:FlowOk f) (hm:Mild f f') (hg:f'.2.1=f.2.1):FlowOk f':=by
 obtain ⟨a,b,c,d⟩:=f
 obtain ⟨a',b',c',d'⟩:=f'
 obtain ⟨rfl,rfl,h3,_⟩:=hm
 simp only at hg
 subst hg
 exact ⟨h.mo,h.g8,h.r8,h.c8,h.cs,h3,h.pos,h.can,h.row,h.col⟩
theorem Closed.other {f f':Flow} {S:Nat->Prop} (h:Closed f S) (h1:f'.1=f.1) (h2:f'.2.2.1=f.2.2.1) (hg:f'.2.1=f.2.1):Closed f' S:=by
 obtain ⟨a,b,c,d⟩:=f
 obtain ⟨a',b',c',d'⟩:=f'
 simp only at h1 h2 hg
 subst h1;subst h2;subst hg
 exact ⟨h.full,h.back⟩
theorem zcW {f f':Flow} (h1:f'.1=f.1) (h2:f'.2.2.1=f.2.2.1) (i k:Nat):openB f' i k=openB f i k:=by
 simp only [openB,h1,h2]
theorem zgQ {f f':Flow} (h1:f'.1=f.1) (hg:f'.2.1=f.2.1) (k:Int):lackingV f' k=lackingV f k:=by
 simp only [lackingV,h1,hg]
theorem Mild.refl {f:Flow} (h:FlowOk f):Mild f f:=⟨rfl,rfl,h.seen,fun _ h=>h⟩
theorem Mild.trans {f g h:Flow} (a:Mild f g) (b:Mild g h):Mild f h:=⟨b.mo.trans a.mo,b.cl.trans a.cl,b.sm,fun k hk=>b.grow k (a.grow k hk)⟩
theorem zeu {f:Flow} (h:FlowOk f) {k:Nat} (hk:k<NN f):Mild f (markV f (k:Nat)):=by
 refine ⟨rfl,rfl,zkt h.seen (by have:=h.n8;omega),fun j hj=>?_⟩
 show hasB _ _=true
 rw [markV,has_or]
 have hj:hasB f.2.2.2 (j:Nat)=true:=hj
 rw [hj];rfl
theorem zdD (f:Flow) (k j:Nat):seenB (markV f (k:Nat)) j=(seenB f j||decide (k=j)):=by
 show hasB _ _=_
 rw [markV,has_or];rfl
theorem zei {f f':Flow} (h1:f'.1=f.1) (hg:∀ k,seenB f k=true->seenB f' k=true):unseen f'<=unseen f:=by
 unfold unseen
 rw [h1]
 refine ydx fun k _ hk=>?_
 have hk:(!seenB f' k)=true:=hk
 show (!seenB f k)=true
 cases hs:seenB f k with
 | false=>rfl
 | true=>rw [hg k hs] at hk;cases hk
theorem ziT {α:Type} {p q:α->Bool}:∀ {l:List α} {a:α},a∈l->(∀ b∈l,q b=true->p b=true)->p a=true->q a=false->l.countP q<l.countP p
 | b::l,a,ha,hm,hp,hq=>by
  have hle:l.countP q<=l.countP p:=ydx fun c hc=>hm c (yal _ hc)
  rw [ydy,ydy]
  rcases List.mem_cons.1 ha with rfl | ha
  ·rw [hp,hq];simp;omega
  ·have ih:=ziT ha (fun c hc=>hm c (yal _ hc)) hp hq
   have:=hm b List.mem_cons_self
   cases hb:q b with
   | false=>simp;omega
   | true=>rw [this hb];simp;omega
theorem zfD {f:Flow} {k:Nat} (hk:k<NN f) (hs:seenB f k=false):unseen (markV f (k:Nat))<unseen f:=by
 unfold unseen
 refine ziT (a:=k) (List.mem_range.2 hk) (fun j _ hj=>?_) ?_ ?_
 ·have hj:(!seenB (markV f (k:Nat)) j)=true:=hj
  rw [zdD] at hj
  show (!seenB f j)=true
  cases hh:seenB f j with
  | false=>rfl
  | true=>rw [hh] at hj;cases hj
 ·show (!seenB f k)=true
  rw [hs];rfl
 ·show (!seenB (markV f (k:Nat)) k)=false
  rw [zdD];simp
end Go.Tt
