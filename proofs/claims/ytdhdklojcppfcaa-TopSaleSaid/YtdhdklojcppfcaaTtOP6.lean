/-
  Chapter 10: the conditions of fill and Share, proved.
-/
import Derived.Test.YtdhdklojcppfcaaTtOP5
set_option linter.all false
set_option maxRecDepth 100000
set_option maxHeartbeats 4000000
set_option linter.unusedVariables false
open Int renaming le_refl->ydz,tdiv->ydu,toNat_natCast->ydw
open List renaming getD->yda,getElem?_replicate->ydQ,range->yaf,replicate->yaa
namespace Go.Tt
open Go Go.Sx
theorem left_bd {f:Flow} (hf:FlowOk f) {i:Nat} (hi:i<MM f):leftV f (i:Nat)<=topN:=by
 have h1:=(many_bd hf hi).2
 have h2:0<=rowS f.2.1 ((i:Nat):Int) 8:=zbc fun m _=>hf.pos i m
 simp only [leftV,ydw]
 omega
theorem v160 (x:Flow) (h:k160.pre x):V160 x:=by
 have hx:FlowOk x:=h
 have hM:=hx.m8
 refine ⟨hx.mo.1,fun s=>0<=s.1/\s.1<=(MM x:Int)/\FlowOk s.2/\s.2.1=x.1/\fillL (ixs ((yaf (MM x)).drop s.1.toNat)) s.2=fillV x,fun s=>((MM x:Int) - s.1).toNat,⟨by simp,by show (0:Int)<=(MM x:Int);omega,hx,rfl,rfl⟩,?_⟩
 rintro ⟨i,f⟩ ⟨i1,i2,hf,hm,hv⟩
 simp only at i1 i2 hf hm hv ⊢
 refine ⟨fun hi=>?_,fun hi=>?_⟩
 rotate_left
 ·have hi:¬ i<(MM x:Int):=of_decide_eq_false hi
  rw [List.drop_of_length_le (by rw [List.length_range];omega)] at hv
  exact hv
 have hi:i<(MM x:Int):=of_decide_eq_true hi
 obtain ⟨i,rfl⟩:=Int.eq_ofNat_of_zero_le i1
 have hiM:i<MM x:=by omega
 rw [ydw,zeq _ _ hiM,fillL] at hv
 refine ⟨fun g=>FlowOk g/\g.1=x.1/\∃ n:Nat,leftV g (i:Nat)<=n/\drain n g (i:Nat)=drain (leftV f (i:Nat)).toNat f (i:Nat),fun g=>(leftV g (i:Nat)).toNat,⟨hf,hm,_,by omega,rfl⟩,?_⟩
 rintro g ⟨hg,hgm,n,hn,hd⟩
 have eM:MM g=MM x:=by rw [MM,hgm]
 have hig:i<MM g:=by omega
 have hg0:FlowOk (g.1,g.2.1,g.2.2.1,(0:Int)):=hg.reseen ⟨by decide,by decide⟩
 have hl0:zax ((g.1,g.2.1,g.2.2.1,(0:Int)),((i:Nat):Int))=leftV g (i:Nat):=rfl
 have hlp:((i:Nat):Int)<(MM g:Int):=by omega
 have goOn:∀ r:Flow,FlowOk r->r.1=x.1->r=drain n g (i:Nat)->(Z.in64 (((i:Nat):Int)+1)/\(0<=((i:Nat):Int)+1/\((i:Nat):Int)+1<=(MM x:Int)/\FlowOk r/\r.1=x.1/\fillL (ixs ((yaf (MM x)).drop (((i:Nat):Int)+1).toNat)) r=fillV x)/\((MM x:Int) - (((i:Nat):Int)+1)).toNat<((MM x:Int) - ((i:Nat):Int)).toNat):=by
  intro r h1 h2 h3
  have e:(((i:Nat):Int)+1).toNat=i+1:=by omega
  refine ⟨by simp only [Z.in64];omega,⟨by omega,by omega,h1,h2,?_⟩,by omega⟩
  rw [e,h3,hd];exact hv
 refine ⟨⟨hg,by omega,hlp⟩,fun hl=>?_,fun hl=>?_⟩
 ·have hlb:decide (0<leftV g (i:Nat))=true:=hl
  have hl:=of_decide_eq_true hlb
  have hR:=zjD hg0 (i:=i) hig hl
  cases n with
  | zero=>simp at hn;omega
  | succ n =>
   rw [drain,hlb,cond_true] at hd
   refine ⟨⟨hg0,by omega,hlp⟩,⟨⟨hg0,⟨by omega,hlp⟩,hl,left_bd hg hig⟩,trivial,trivial⟩,fun hz=>?_,fun hz=>?_⟩
   ·have hz:((pushV (g.1,g.2.1,g.2.2.1,(0:Int)) ((i:Nat):Int) (leftV g ((i:Nat):Int))).1==0)=true:=hz
    refine goOn _ ?_ ?_ ?_
    ·exact hg0.other hR.mild (hR.fail (eq_of_beq hz)).giv
    ·exact hR.mild.mo.trans hgm
    ·rw [drain,hlb,cond_true,hz];rfl
   ·have hz:((pushV (g.1,g.2.1,g.2.2.1,(0:Int)) ((i:Nat):Int) (leftV g ((i:Nat):Int))).1==0)=false:=hz
    have hne:=beq_eq_false_iff_ne.1 hz
    have hnn:=hR.nn
    have hG:=hR.gain (by omega)
    have hleft:=zlX hR.mild.mo hG i
    rw [if_pos rfl] at hleft
    have hleft:leftV (pushV (g.1,g.2.1,g.2.2.1,(0:Int)) ((i:Nat):Int) (leftV g ((i:Nat):Int))).2 (i:Nat)=leftV g (i:Nat) - (pushV (g.1,g.2.1,g.2.2.1,(0:Int)) ((i:Nat):Int) (leftV g ((i:Nat):Int))).1:=hleft
    rw [hz,cond_false] at hd
    refine ⟨⟨gain_ok hg0 hR.mild hG hig hR.le,hR.mild.mo.trans hgm,n,?_,hd⟩,?_⟩
    ·show leftV (pushV (g.1,g.2.1,g.2.2.1,(0:Int)) ((i:Nat):Int) (leftV g ((i:Nat):Int))).2 (i:Nat)<=n
     omega
    ·show (leftV (pushV (g.1,g.2.1,g.2.2.1,(0:Int)) ((i:Nat):Int) (leftV g ((i:Nat):Int))).2 (i:Nat)).toNat<(leftV g (i:Nat)).toNat
     omega
 ·have hlb:decide (0<leftV g (i:Nat))=false:=hl
  refine goOn g hg hgm ?_
  cases n with
  | zero=>rfl
  | succ n=>rw [drain,hlb];rfl
theorem mid_bd {low high:Int} (h0:0<=low) (h:low<high):low<ydu (low+high+1) 2/\ydu (low+high+1) 2<=high:=by
 rw [Int.tdiv_eq_ediv_of_nonneg (by omega)]
 omega
theorem bisV_bd (P:Int->Bool):∀ (n:Nat) (low high:Int),0<=low->low<=high->low<=bisV P n low high/\bisV P n low high<=high
 | 0,low,high,_,h=>⟨ydz _,h⟩
 | n+1,low,high,h0,h=>by
  rw [bisV]
  cases hl:decide (low<high) with
  | false=>exact ⟨ydz _,h⟩
  | true =>
   have hl:=of_decide_eq_true hl
   rw [cond_true]
   have h1:=mid_bd h0 hl
   generalize ydu (low+high+1) 2=m at h1 ⊢
   cases P m with
   | true =>
    have:=bisV_bd P n m high (by omega) h1.2
    rw [cond_true];omega
   | false =>
    have:=bisV_bd P n low (m - 1) h0 (by omega)
    rw [cond_false];omega
structure ShareOk (m:Market) (c:List Int):Prop where
 mo:MarketOk m
 c8:c.length=8
 cs:∀ s∈c,smallSet s
theorem set_mem {α:Type} {l:List α} {i:Nat} {v a:α} {p:α->Prop} (hl:∀ x∈l,p x) (hv:p v) (ha:a∈l.set i v):p a:=by
 rcases List.mem_or_eq_of_mem_set ha with h | h
 ·exact hl a h
 ·rw [h];exact hv
theorem less_ok {m:Market} (h:MarketOk m) {i k:Nat} {n:Int} (hi:i<m.2.1.length) (hk:k<m.1.length) (h0:0<=n) (h1:n<=m.2.1.getD i 0) (h2:n<=m.1.getD k 0):MarketOk (lessV m (i:Nat) (k:Nat) n):=by
 have ha:=h.asked _ (zan m.1 0 k hk)
 have hb:=h.many _ (zan m.2.1 0 i hi)
 simp only [amount,topN] at ha hb
 refine ⟨by simpa [lessV] using h.a8,by simpa [lessV] using h.m8,by simpa [lessV] using h.len,fun a hm=>?_,fun a hm=>?_,h.serves⟩
 ·refine set_mem (p:=amount) h.asked ?_ hm
  simp only [ydw,amount,topN];omega
 ·refine set_mem (p:=amount) h.many ?_ hm
  simp only [ydw,amount,topN];omega
theorem zfS (i k:Nat):getG zeros ((i:Nat):Int) ((k:Nat):Int)=0:=by
 simp only [getG,zeros,ydw]
 have h1:(yaa 8 (yaa 8 (0:Int))).getD i (yaa 8 0)=yaa 8 0:=by
  simp only [yda]
  rw [ydQ]
  split<;>rfl
 rw [h1]
 simp only [yda]
 rw [ydQ]
 split<;>rfl
theorem zhJ {m:Market} {c:List Int} (h:ShareOk m c):FlowOk (some m,zeros,c,0):=by
 refine ⟨⟨rfl,h.mo⟩,by simp [zeros],fun r hr=>?_,h.c8,h.cs,(show smallSet 0 from ⟨by decide,by decide⟩),fun i k=>Int.le_of_eq (zfS i k).symm,fun i k hp=>?_,fun i hi=>?_,fun k hk=>?_⟩
 ·rw [(List.mem_replicate.1 hr).2];simp
 ·rw [zfS] at hp;omega
 ·have:rowS zeros ((i:Nat):Int) 8=0:=(zaA (g:=fun _=>0) fun k _=>zfS i k).trans (zbl _)
  show rowS zeros _ 8<=_
  rw [this]
  exact (h.mo.many _ (zan _ 0 i hi)).1
 ·have:colS zeros ((k:Nat):Int) m.2.1.length=0:=(zaA (g:=fun _=>0) fun i _=>zfS i k).trans (zbl _)
  show colS zeros _ m.2.1.length<=_
  rw [this]
  exact (h.mo.asked _ (zan _ 0 k hk)).1
theorem zkB {m:Market} {c:List Int} (h:ShareOk m c) {i k:Nat} {n:Int} (hi:i<m.2.1.length) (hk:k<m.1.length) (h0:0<=n) (h1:n<=m.2.1.getD i 0) (h2:n<=m.1.getD k 0) :
  FlowOk (some (lessV m (i:Nat) (k:Nat) n),zeros,c,0)/\FlowOk (leastV m c (i:Nat) (k:Nat) n)/\(leastV m c (i:Nat) (k:Nat) n).1=some (lessV m (i:Nat) (k:Nat) n):=by
 have hs:=zhJ (m:=lessV m (i:Nat) (k:Nat) n) (c:=c) ⟨less_ok h.mo hi hk h0 h1 h2,h.c8,h.cs⟩
 have:=zfw hs
 exact ⟨hs,this.ok,this.mo⟩
theorem zmM {f:Flow} (hf:FlowOk f):0<=totalV f/\totalV f<=8*topN:=by
 have hM:=hf.m8
 have eT:totalV f=sumN (MM f) fun i=>(mkt f.1).2.1.getD i 0 - leftV f (i:Nat):=by
  simp only [totalV,sumN,idx,List.map_map]
  rfl
 have each:∀ j:Nat,j<MM f->0<=(mkt f.1).2.1.getD j 0 - leftV f (j:Nat)/\(mkt f.1).2.1.getD j 0 - leftV f (j:Nat)<=topN:=by
  intro j hj
  have h1:=left_nn hf hj
  have h3:=(many_bd hf hj).2
  have h4:0<=rowS f.2.1 ((j:Nat):Int) 8:=zbc fun m _=>hf.pos j m
  simp only [leftV,ydw] at h1 ⊢
  omega
 rw [eT]
 refine ⟨zbc fun j hj=>(each j hj).1,?_⟩
 have:∀ n,n<=MM f->sumN n (fun i=>(mkt f.1).2.1.getD i 0 - leftV f (i:Nat))<=(n:Int)*topN:=by
  intro n
  induction n with
  | zero=>intro _;simp [zel]
  | succ n ih =>
   intro hn
   have:=ih (by omega)
   have:=(each n (by omega)).2
   rw [zaq]
   simp only [topN] at *
   omega
 have:=this (MM f) (Nat.le_refl _)
 simp only [topN] at this ⊢
 omega
theorem zik (i:Int) (m:Market) (c:List Int) (h:m.2.2.getD i.toNat 0=0):∀ (r l:List Int),shareK i r l m c=(l,m,c)
 | [],l=>rfl
 | k::r,l=>by
  rw [shareK,h]
  have:hasB 0 k=false:=by simp [hasB]
  rw [this,cond_false,zik i m c h r l]
end Go.Tt
