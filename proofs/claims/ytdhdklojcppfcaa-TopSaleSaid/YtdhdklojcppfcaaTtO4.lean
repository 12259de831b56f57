/-
  Chapter 10: what is filled is as much as can be. Plain Lean; no program in sight.
-/
import Derived.Test.YtdhdklojcppfcaaTtO3
set_option linter.all false
set_option maxRecDepth 100000
set_option maxHeartbeats 1000000
set_option linter.unusedVariables false
open Bool renaming and_eq_true->yac
open Int renaming le_antisymm->ydC,le_trans->yaV,lt_or_le->ydD,toNat_natCast->ydw
open List renaming mem_cons_of_mem->yal,mem_cons_self->yam,mem_range->ycU,range->yaf
open Nat renaming add_assoc->yax
namespace Go.Tt
open Go Go.Sx
theorem FlowOk.reseen {f:Flow} (h:FlowOk f) {s:Int} (hs:smallSet s):FlowOk (f.1,f.2.1,f.2.2.1,s) :=
 ⟨h.mo,h.g8,h.r8,h.c8,h.cs,hs,h.pos,h.can,h.row,h.col⟩
theorem left_nn {f:Flow} (h:FlowOk f) {i:Nat} (hi:i<MM f):0<=leftV f (i:Nat):=by
 have:=h.row i hi
 simp only [leftV,ydw]
 omega
theorem zlX {f f':Flow} {i:Nat} {n:Int} (hm:f'.1=f.1) (h:Gain f f' i n) (j:Nat):leftV f' (j:Nat)=leftV f (j:Nat) - if j=i then n else 0:=by
 simp only [leftV,hm,h.row]
 omega
theorem gain_ok {f f':Flow} {i:Nat} {n:Int} (hf:FlowOk f) (hm:Mild f f') (h:Gain f f' i n) (hi:i<MM f) (hle:n<=leftV f (i:Nat)):FlowOk f':=by
 have hM:MM f'=MM f:=by rw [MM,hm.mo]
 have hN:NN f'=NN f:=by rw [NN,hm.mo]
 refine ⟨by rw [hm.mo];exact hf.mo,h.g8,h.r8,by rw [hm.cl];exact hf.c8,by rw [hm.cl];exact hf.cs,hm.sm,h.pos,fun j k hp=>?_,fun j hj=>?_,fun k hk=>?_⟩
 ·obtain ⟨h1,h2,h3⟩:=h.can j k hp
  simp only [openB,yac,Bool.not_eq_true'] at h3
  rw [hm.mo,hm.cl]
  exact ⟨h1,h2,h3.1,h3.2⟩
 ·have hj:j<MM f:=by rw [<-hM];exact hj
  rw [h.row,hm.mo]
  have:=hf.row j hj
  simp only [leftV,ydw] at hle
  by_cases e:j=i
  ·subst e;rw [if_pos rfl];omega
  ·rw [if_neg e];omega
 ·have hk:k<NN f:=by rw [<-hN];exact hk
  have:=h.col k hk
  rw [hm.mo]
  exact this
theorem zmw {f f':Flow} {i:Nat} {n:Int} {S:Nat->Prop} (hm:Mild f f') (h:Gain f f' i n) (hS:Closed f S):Closed f' S:=by
 have hM:MM f'=MM f:=by rw [MM,hm.mo]
 have hN:NN f'=NN f:=by rw [NN,hm.mo]
 obtain ⟨_,hc⟩:=h.cut S hS
 refine ⟨fun k hk hSk=>?_,fun k hk hSk j hj hp k' hk' ho=>?_⟩
 ·have hk:k<NN f:=by rw [<-hN];exact hk
  have e:colS f'.2.1 (k:Nat) (MM f)=colS f.2.1 (k:Nat) (MM f):=zaA fun j _=>hc k hk hSk j
  have:=hS.full k hk hSk
  simp only [lackingV,hm.mo] at this ⊢
  show (mkt f.1).1.getD _ 0 - colS f'.2.1 (k:Nat) (MM f)=0
  rw [e];exact this
 ·have hk:k<NN f:=by rw [<-hN];exact hk
  rw [hc k hk hSk j] at hp
  exact hS.back k hk hSk j (by rw [<-hM];exact hj) hp k' (by rw [<-hN];exact hk') (by rw [<-zcW hm.mo hm.cl];exact ho)
def Spent (f:Flow) (i:Nat):Prop:=leftV f (i:Nat)=0\/∃ S:Nat->Prop,Closed f S/\∀ k,k<NN f->openB f i k=true->S k
structure DrainR (f f':Flow) (i:Nat):Prop where
 ok:FlowOk f'
 mo:f'.1=f.1
 cl:f'.2.2.1=f.2.2.1
 oth:∀ j:Nat,j≠i->leftV f' (j:Nat)=leftV f (j:Nat)
 own:Spent f' i
 keep:∀ S,Closed f S->Closed f' S
theorem zlx (f:Flow) (k:Nat):seenB (f.1,f.2.1,f.2.2.1,(0:Int)) k=false:=by
 simp [seenB,hasB]
theorem zjV {i:Nat}:∀ (n:Nat) (f:Flow),FlowOk f->i<MM f->leftV f (i:Nat)<=n->DrainR f (drain n f (i:Nat)) i
 | 0,f,hf,hi,hn=>⟨hf,rfl,rfl,fun _ _=>rfl,.inl (by have:=left_nn hf hi;simp at hn;exact ydC hn this),fun _ h=>h⟩
 | n+1,f,hf,hi,hn=>by
  rw [drain]
  cases hl:decide (0<leftV f (i:Nat)) with
  | false =>
   have hl:=of_decide_eq_false hl
   have:=left_nn hf hi
   rw [cond_false]
   exact ⟨hf,rfl,rfl,fun _ _=>rfl,.inl (by omega),fun _ h=>h⟩
  | true =>
   have hl:=of_decide_eq_true hl
   rw [cond_true]
   have hf0:FlowOk (f.1,f.2.1,f.2.2.1,(0:Int)):=hf.reseen ⟨by decide,by decide⟩
   have hR:=zjD hf0 (i:=i) hi hl
   generalize pushV (f.1,f.2.1,f.2.2.1,(0:Int)) ((i:Nat):Int) (leftV f ((i:Nat):Int))=r at hR ⊢
   obtain ⟨r1,r2,r3,r4,r5⟩:=hR
   cases h0:(r.1==0) with
   | true =>
    have h0:=eq_of_beq h0
    rw [cond_true]
    have hF:=r4 h0
    refine ⟨hf0.other r1 hF.giv,r1.mo,r1.cl,fun j _=>?_,.inr ⟨fun k=>seenB r.2 k=true,⟨fun k hk hs=>?_,fun k hk hs j hj hp k' hk' ho=>?_⟩,fun k hk ho=>?_⟩,fun S hS=>hS.other r1.mo r1.cl hF.giv⟩
    ·simp only [leftV,r1.mo,hF.giv]
    ·have hk:k<NN f:=by have:=hk;rwa [NN,r1.mo] at this
     rw [zgQ r1.mo hF.giv]
     exact (hF.done k hk hs (zlx f k)).1
    ·have hk:k<NN f:=by have:=hk;rwa [NN,r1.mo] at this
     have hj:j<MM f:=by have:=hj;rwa [MM,r1.mo] at this
     have hk':k'<NN f:=by have:=hk';rwa [NN,r1.mo] at this
     rw [gg,hF.giv] at hp
     rw [zcW r1.mo r1.cl] at ho
     exact (hF.done k hk hs (zlx f k)).2 j hj hp k' hk' ho
    ·have hk:k<NN f:=by have:=hk;rwa [NN,r1.mo] at this
     rw [zcW r1.mo r1.cl] at ho
     exact hF.own k hk ho
   | false =>
    have h0:r.1≠0:=beq_eq_false_iff_ne.1 h0
    rw [cond_false]
    have hG:=r5 (by omega)
    have hok:=gain_ok hf0 r1 hG hi r3
    have hlr:=zlX r1.mo hG
    have ih:=zjV n r.2 hok (by rw [MM,r1.mo];exact hi) (by
     rw [hlr,if_pos rfl]
     show leftV f (i:Nat) - _<=_
     omega)
    refine ⟨ih.ok,ih.mo.trans r1.mo,ih.cl.trans r1.cl,fun j hj=>?_,ih.own,fun S hS=>ih.keep S (zmw r1 hG (hS.other rfl rfl rfl))⟩
    rw [ih.oth j hj,hlr,if_neg hj,Int.sub_zero];rfl
structure FillR (f f':Flow) (l:List Nat):Prop where
 ok:FlowOk f'
 mo:f'.1=f.1
 cl:f'.2.2.1=f.2.2.1
 oth:∀ j:Nat,j∉l->leftV f' (j:Nat)=leftV f (j:Nat)
 own:∀ i∈l,Spent f' i
 keep:∀ S,Closed f S->Closed f' S
theorem znL {f f':Flow} {i:Nat} (h:Spent f i) (mo:f'.1=f.1) (cl:f'.2.2.1=f.2.2.1) (hl:leftV f' (i:Nat)=leftV f (i:Nat)) (keep:∀ S,Closed f S->Closed f' S):Spent f' i:=by
 rcases h with h | ⟨S,h1,h2⟩
 ·exact .inl (hl.trans h)
 ·refine .inr ⟨S,keep S h1,fun k hk ho=>h2 k (by have:=hk;rwa [NN,mo] at this) (by rw [zcW mo cl] at ho;exact ho)⟩
theorem zjS:∀ (l:List Nat) (f:Flow),FlowOk f->(∀ i∈l,i<MM f)->l.Nodup->FillR f (fillL (ixs l) f) l
 | [],f,hf,_,_=>⟨hf,rfl,rfl,fun _ _=>rfl,fun _ h=>(by cases h),fun _ h=>h⟩
 | i::l,f,hf,hl,hn=>by
  have hi:=hl i yam
  have hd:=zjV (leftV f (i:Nat)).toNat f hf hi (by omega)
  show FillR f (fillL (ixs l) (drain (leftV f (i:Nat)).toNat f (i:Nat))) (i::l)
  generalize drain (leftV f ((i:Nat):Int)).toNat f ((i:Nat):Int)=f1 at hd ⊢
  rw [List.nodup_cons] at hn
  have ih:=zjS l f1 hd.ok (fun x hx=>by rw [MM,hd.mo];exact hl x (yal _ hx)) hn.2
  refine ⟨ih.ok,ih.mo.trans hd.mo,ih.cl.trans hd.cl,fun j hj=>?_,fun j hj=>?_,fun S hS=>ih.keep S (hd.keep S hS)⟩
  ·rw [ih.oth j fun h=>hj (yal _ h),hd.oth j fun h=>hj (h▸yam)]
  ·rcases List.mem_cons.1 hj with rfl | hj
   ·exact znL hd.own ih.mo ih.cl (ih.oth j hn.1) ih.keep
   ·exact ih.own j hj
theorem zfw {f:Flow} (hf:FlowOk f):FillR f (fillV f) (yaf (MM f)) :=
 zjS (yaf (MM f)) f hf (fun i hi=>ycU.1 hi) List.nodup_range
structure IsFlow (m:Market) (op:Nat->Nat->Bool) (g:Nat->Nat->Int):Prop where
 pos:∀ i k,0<=g i k
 can:∀ i k,0<g i k->op i k=true
 row:∀ i,i<m.2.1.length->sumN m.1.length (g i)<=m.2.1.getD i 0
 col:∀ k,k<m.1.length->sumN m.2.1.length (fun i=>g i k)<=m.1.getD k 0
def valF (m:Market) (g:Nat->Nat->Int):Int:=sumN m.2.1.length fun i=>sumN m.1.length (g i)
def askedS (m:Market):Int:=sumN m.1.length fun k=>m.1.getD k 0
def touchO (n:Nat) (op:Nat->Nat->Bool) (X:Nat->Bool) (i:Nat):Bool:=(yaf n).any fun k=>X k&&op i k
def lackO (m:Market) (op:Nat->Nat->Bool) (X:Nat->Bool):Int :=
 (sumN m.1.length fun k=>cond (X k) (m.1.getD k 0) 0) - sumN m.2.1.length fun i=>cond (touchO m.1.length op X i) (m.2.1.getD i 0) 0
theorem zdv {n:Nat} {op:Nat->Nat->Bool} {X:Nat->Bool} {i:Nat}:touchO n op X i=true↔∃ k,k<n/\X k=true/\op i k=true:=by
 simp only [touchO,List.any_eq_true,ycU,yac]
theorem cut_le {m:Market} {op:Nat->Nat->Bool} {g:Nat->Nat->Int} (h:IsFlow m op g) (hm:∀ i,i<m.2.1.length->0<=m.2.1.getD i 0) (X:Nat->Bool):valF m g<=askedS m - lackO m op X:=by
 have e1:valF m g=sumN m.1.length fun k=>sumN m.2.1.length fun i=>g i k:=zg _ _ _
 have e2:(sumN m.1.length fun k=>sumN m.2.1.length fun i=>g i k)=(sumN m.1.length fun k=>cond (X k) (sumN m.2.1.length fun i=>g i k) 0)+sumN m.1.length fun k=>cond (X k) 0 (sumN m.2.1.length fun i=>g i k):=by
  rw [<-zkk]
  refine zaA fun k _=>?_
  cases X k<;>simp
 have e3:(sumN m.1.length fun k=>cond (X k) (sumN m.2.1.length fun i=>g i k) 0)=sumN m.2.1.length fun i=>sumN m.1.length fun k=>cond (X k) (g i k) 0:=by
  rw [zg m.2.1.length]
  refine zaA fun k _=>?_
  cases X k with
  | true=>rfl
  | false=>exact (zbl _).symm
 have e4:(sumN m.2.1.length fun i=>sumN m.1.length fun k=>cond (X k) (g i k) 0)<=sumN m.2.1.length fun i=>cond (touchO m.1.length op X i) (m.2.1.getD i 0) 0:=by
  refine sumN_le fun i hi=>?_
  cases ht:touchO m.1.length op X i with
  | true =>
   refine yaV (sumN_le fun k hk=>?_) (h.row i hi)
   have:=h.pos i k
   cases X k<;>simp [this]
  | false =>
   show _<=(0:Int)
   refine yaV (sumN_le (g:=fun _=>0) fun k hk=>?_) (Int.le_of_eq (zbl _))
   cases hX:X k with
   | false=>exact Int.le_refl _
   | true =>
    rw [cond_true]
    rcases ydD 0 (g i k) with hp | hp
    ·have:=zdv.2 ⟨k,hk,hX,h.can i k hp⟩
     rw [ht] at this;cases this
    ·exact hp
 have e5:(sumN m.1.length fun k=>cond (X k) 0 (sumN m.2.1.length fun i=>g i k))<=sumN m.1.length fun k=>m.1.getD k 0 - cond (X k) (m.1.getD k 0) 0:=by
  refine sumN_le fun k hk=>?_
  have:=h.col k hk
  cases X k with
  | true=>simp
  | false=>simpa using this
 rw [zmQ] at e5
 simp only [lackO,askedS]
 omega
theorem flow_of {f:Flow} (hf:FlowOk f):IsFlow (mkt f.1) (openB f) (gg f):=by
 have h8:∀ i,rowS f.2.1 ((i:Nat):Int) 8=sumN (NN f) (gg f i):=by
  intro i
  have ext:∀ d,sumN (NN f+d) (gg f i)=sumN (NN f) (gg f i):=by
   intro d
   induction d with
   | zero=>rfl
   | succ d ih =>
    rw [<-yax,zaq,ih]
    have:gg f i (NN f+d)=0:=by
     have:=hf.pos i (NN f+d)
     rcases ydD 0 (gg f i (NN f+d)) with hp | hp
     ·have:=(hf.op hp).2.1;omega
     ·exact ydC hp this
    omega
  have:=ext (8 - NN f)
  rw [show NN f+(8 - NN f)=8 from by have:=hf.n8;omega] at this
  exact this
 refine ⟨fun i k=>hf.pos i k,fun i k hp=>(hf.op hp).2.2,fun i hi=>?_,fun k hk=>hf.col k hk⟩
 rw [<-h8];exact hf.row i hi
theorem row_sum {f:Flow} (hf:FlowOk f) (i:Nat):rowS f.2.1 ((i:Nat):Int) 8=sumN (NN f) (gg f i):=by
 have ext:∀ d,sumN (NN f+d) (gg f i)=sumN (NN f) (gg f i):=by
  intro d
  induction d with
  | zero=>rfl
  | succ d ih =>
   rw [<-yax,zaq,ih]
   have:gg f i (NN f+d)=0:=by
    have:=hf.pos i (NN f+d)
    rcases ydD 0 (gg f i (NN f+d)) with hp | hp
    ·have:=(hf.op hp).2.1;omega
    ·exact ydC hp this
   omega
 have:=ext (8 - NN f)
 rw [show NN f+(8 - NN f)=8 from by have:=hf.n8;omega] at this
 exact this
theorem zif {f:Flow} (hf:FlowOk f):totalV f=valF (mkt f.1) (gg f):=by
 have e:totalV f=sumN (MM f) fun i=>(mkt f.1).2.1.getD i 0 - leftV f (i:Nat):=by
  simp only [totalV,sumN,idx,List.map_map]
  rfl
 rw [e]
 refine zaA fun i _=>?_
 rw [<-row_sum hf i]
 simp only [leftV,ydw]
 omega
theorem zlm {f:Flow} (hf:FlowOk f) (hs:∀ i,i<MM f->Spent f i):∃ Y:Nat->Bool,valF (mkt f.1) (gg f)=askedS (mkt f.1) - lackO (mkt f.1) (openB f) Y:=by
 classical
 have hI:=flow_of hf
 let U:Nat->Prop:=fun k=>∃ S,Closed f S/\S k
 have hfull:∀ k,k<NN f->U k->colS f.2.1 (k:Nat) (MM f)=(mkt f.1).1.getD k 0:=by
  rintro k hk ⟨S,hS,hk'⟩
  have:=hS.full k hk hk'
  simp only [lackingV,ydw] at this
  show colS f.2.1 (k:Nat) (mkt f.1).2.1.length=_
  omega
 have hback:∀ k,k<NN f->U k->∀ j,j<MM f->0<gg f j k->∀ k',k'<NN f->openB f j k'=true->U k':=by
  rintro k hk ⟨S,hS,hk'⟩ j hj hp k2 hk2 ho
  exact ⟨S,hS,hS.back k hk hk' j hj hp k2 hk2 ho⟩
 have hleft:∀ i,i<MM f->leftV f (i:Nat)=0\/∀ k,k<NN f->openB f i k=true->U k:=by
  intro i hi
  rcases hs i hi with h | ⟨S,h1,h2⟩
  ·exact .inl h
  ·exact .inr fun k hk ho=>⟨S,h1,h2 k hk ho⟩
 refine ⟨fun k=>!decide (U k),?_⟩
 have e1:valF (mkt f.1) (gg f)=sumN (NN f) fun k=>sumN (MM f) fun i=>gg f i k:=zg _ _ _
 have e2:(sumN (NN f) fun k=>sumN (MM f) fun i=>gg f i k)=(sumN (NN f) fun k=>(mkt f.1).1.getD k 0 - cond (!decide (U k)) ((mkt f.1).1.getD k 0) 0)+sumN (NN f) fun k=>cond (!decide (U k)) (sumN (MM f) fun i=>gg f i k) 0:=by
  rw [<-zkk]
  refine zaA fun k hk=>?_
  by_cases hU:U k
  ·have:=hfull k hk hU
   rw [decide_eq_true hU]
   show colS f.2.1 (k:Nat) (MM f)=_
   rw [this];simp
  ·rw [decide_eq_false hU];simp
 have e3:(sumN (NN f) fun k=>cond (!decide (U k)) (sumN (MM f) fun i=>gg f i k) 0)=sumN (MM f) fun i=>sumN (NN f) fun k=>cond (!decide (U k)) (gg f i k) 0:=by
  rw [zg (MM f)]
  refine zaA fun k _=>?_
  cases (!decide (U k)) with
  | true=>rfl
  | false=>exact (zbl _).symm
 have e4:(sumN (MM f) fun i=>sumN (NN f) fun k=>cond (!decide (U k)) (gg f i k) 0)=sumN (MM f) fun i=>cond (touchO (NN f) (openB f) (fun k=>!decide (U k)) i) ((mkt f.1).2.1.getD i 0) 0:=by
  refine zaA fun i hi=>?_
  cases ht:touchO (NN f) (openB f) (fun k=>!decide (U k)) i with
  | true =>
   obtain ⟨k,hk,hX,ho⟩:=zdv.1 ht
   have hnU:¬ U k:=by simpa using hX
   have hl:leftV f (i:Nat)=0:=(hleft i hi).resolve_right fun h=>hnU (h k hk ho)
   have hz:∀ k',k'<NN f->U k'->gg f i k'=0:=by
    intro k' hk' hU'
    rcases ydD 0 (gg f i k') with hp | hp
    ·exact absurd (hback k' hk' hU' i hi hp k hk ho) hnU
    ·exact ydC hp (hf.pos i k')
   have:(sumN (NN f) fun k=>cond (!decide (U k)) (gg f i k) 0)=sumN (NN f) (gg f i):=by
    refine zaA fun k' hk'=>?_
    by_cases hU:U k'
    ·rw [decide_eq_true hU,hz k' hk' hU];rfl
    ·rw [decide_eq_false hU];rfl
   rw [this,<-row_sum hf i]
   simp only [leftV,ydw] at hl
   simp only [cond_true]
   omega
  | false =>
   show _=(0:Int)
   refine (zaA (g:=fun _=>0) fun k hk=>?_).trans (zbl (NN f))
   by_cases hU:U k
   ·rw [decide_eq_true hU];rfl
   ·rw [decide_eq_false hU]
    show gg f i k=0
    rcases ydD 0 (gg f i k) with hp | hp
    ·have:=(zdv (X:=fun k=>!decide (U k))).2 ⟨k,hk,(by show (!decide (U k))=true;rw [decide_eq_false hU];rfl:(fun k=>!decide (U k)) k=true),(hf.op hp).2.2⟩
     rw [ht] at this;cases this
    ·exact ydC hp (hf.pos i k)
 rw [zmQ] at e2
 simp only [lackO,askedS]
 rw [e1,e2,e3,e4]
 show (sumN (NN f) fun k=>(mkt f.1).1.getD k 0) - (sumN (NN f) fun k=>cond (!decide (U k)) ((mkt f.1).1.getD k 0) 0)+(sumN (MM f) fun i=>cond (touchO (NN f) (openB f) (fun k=>!decide (U k)) i) ((mkt f.1).2.1.getD i 0) 0)=(sumN (NN f) fun k=>(mkt f.1).1.getD k 0) - ((sumN (NN f) fun k=>cond (!decide (U k)) ((mkt f.1).1.getD k 0) 0) - (sumN (MM f) fun i=>cond (touchO (NN f) (openB f) (fun k=>!decide (U k)) i) ((mkt f.1).2.1.getD i 0) 0))
 omega
end Go.Tt
