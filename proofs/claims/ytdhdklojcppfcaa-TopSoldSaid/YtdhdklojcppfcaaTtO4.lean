/-
  Chapter 10: what is filled is as much as can be. Plain Lean; no program in sight.
-/
import Derived.Test.YtdhdklojcppfcaaTtO3
set_option linter.all false
set_option maxRecDepth 100000
set_option maxHeartbeats 1000000
set_option linter.unusedVariables false
namespace Go.Tt
open Go Go.Sx
theorem FlowOk.reseen {f:Flow} (h:FlowOk f) {s:Int} (hs:smallSet s):FlowOk (f.1,f.2.1,f.2.2.1,s) :=
 ⟨h.mo,h.g8,h.r8,h.c8,h.cs,hs,h.pos,h.can,h.row,h.col⟩
theorem left_nn {f:Flow} (h:FlowOk f) {i:Nat} (hi:i<MM f):0<=leftV f (i:Nat):=by
 have:=h.row i hi
 simp only [leftV,Int.toNat_natCast]
 omega
theorem gain_left {f f':Flow} {i:Nat} {n:Int} (hm:f'.1=f.1) (h:Gain f f' i n) (j:Nat):leftV f' (j:Nat)=leftV f (j:Nat) - if j=i then n else 0:=by
 simp only [leftV,hm,h.row]
 omega
theorem gain_ok {f f':Flow} {i:Nat} {n:Int} (hf:FlowOk f) (hm:Mild f f') (h:Gain f f' i n) (hi:i<MM f) (hle:n<=leftV f (i:Nat)):FlowOk f':=by
 have hM:MM f'=MM f:=by rw [MM,hm.mo]
 have hN:NN f'=NN f:=by rw [NN,hm.mo]
 refine ⟨by rw [hm.mo];exact hf.mo,h.g8,h.r8,by rw [hm.cl];exact hf.c8,by rw [hm.cl];exact hf.cs,hm.sm,h.pos,fun j k hp=>?_,fun j hj=>?_,fun k hk=>?_⟩
 ·obtain ⟨h1,h2,h3⟩:=h.can j k hp
  simp only [openB,Bool.and_eq_true,Bool.not_eq_true'] at h3
  rw [hm.mo,hm.cl]
  exact ⟨h1,h2,h3.1,h3.2⟩
 ·have hj:j<MM f:=by rw [<-hM];exact hj
  rw [h.row,hm.mo]
  have:=hf.row j hj
  simp only [leftV,Int.toNat_natCast] at hle
  by_cases e:j=i
  ·subst e;rw [if_pos rfl];omega
  ·rw [if_neg e];omega
 ·have hk:k<NN f:=by rw [<-hN];exact hk
  have:=h.col k hk
  rw [hm.mo]
  exact this
theorem gain_closed {f f':Flow} {i:Nat} {n:Int} {S:Nat->Prop} (hm:Mild f f') (h:Gain f f' i n) (hS:Closed f S):Closed f' S:=by
 have hM:MM f'=MM f:=by rw [MM,hm.mo]
 have hN:NN f'=NN f:=by rw [NN,hm.mo]
 obtain ⟨_,hc⟩:=h.cut S hS
 refine ⟨fun k hk hSk=>?_,fun k hk hSk j hj hp k' hk' ho=>?_⟩
 ·have hk:k<NN f:=by rw [<-hN];exact hk
  have e:colS f'.2.1 (k:Nat) (MM f)=colS f.2.1 (k:Nat) (MM f):=zcL fun j _=>hc k hk hSk j
  have:=hS.full k hk hSk
  simp only [lackingV,hm.mo] at this ⊢
  show (mkt f.1).1.getD _ 0 - colS f'.2.1 (k:Nat) (MM f)=0
  rw [e];exact this
 ·have hk:k<NN f:=by rw [<-hN];exact hk
  rw [hc k hk hSk j] at hp
  exact hS.back k hk hSk j (by rw [<-hM];exact hj) hp k' (by rw [<-hN];exact hk') (by rw [<-zcU hm.mo hm.cl];exact ho)
def Spent (f:Flow) (i:Nat):Prop:=leftV f (i:Nat)=0∨∃ S:Nat->Prop,Closed f S∧∀ k,k<NN f->openB f i k=true->S k
structure DrainR (f f':Flow) (i:Nat):Prop where
 ok:FlowOk f'
 mo:f'.1=f.1
 cl:f'.2.2.1=f.2.2.1
 oth:∀ j:Nat,j≠i->leftV f' (j:Nat)=leftV f (j:Nat)
 own:Spent f' i
 keep:∀ S,Closed f S->Closed f' S
theorem seen_zero (f:Flow) (k:Nat):seenB (f.1,f.2.1,f.2.2.1,(0:Int)) k=false:=by
 simp [seenB,hasB]
theorem drain_spec {i:Nat}:∀ (n:Nat) (f:Flow),FlowOk f->i<MM f->leftV f (i:Nat)<=n->DrainR f (drain n f (i:Nat)) i
 | 0,f,hf,hi,hn=>⟨hf,rfl,rfl,fun _ _=>rfl,.inl (by have:=left_nn hf hi;simp at hn;exact Int.le_antisymm hn this),fun _ h=>h⟩
 | n+1,f,hf,hi,hn=>by
  rw [drain]
  cases hl:decide (0<leftV f (i:Nat)) with
  | false =>
   have hl:=of_decide_eq_false hl
   have:=left_nn hf hi
   rw [cond_false]
   exact ⟨hf,rfl,rfl,fun _ _=>rfl,.inl (by omega),fun _ h=>h⟩
  | true =>
   have hl:=of_decide_eq_true hl
   rw [cond_true]
   have hf0:FlowOk (f.1,f.2.1,f.2.2.1,(0:Int)):=hf.reseen ⟨by decide,by decide⟩
   have hR:=pushV_spec hf0 (i:=i) hi hl
   generalize pushV (f.1,f.2.1,f.2.2.1,(0:Int)) ((i:Nat):Int) (leftV f ((i:Nat):Int))=r at hR ⊢
   obtain ⟨r1,r2,r3,r4,r5⟩:=hR
   cases h0:(r.1==0) with
   | true =>
    have h0:=eq_of_beq h0
    rw [cond_true]
    have hF:=r4 h0
    refine ⟨hf0.other r1 hF.giv,r1.mo,r1.cl,fun j _=>?_,.inr ⟨fun k=>seenB r.2 k=true,⟨fun k hk hs=>?_,fun k hk hs j hj hp k' hk' ho=>?_⟩,fun k hk ho=>?_⟩,fun S hS=>hS.other r1.mo r1.cl hF.giv⟩
    ·simp only [leftV,r1.mo,hF.giv]
    ·have hk:k<NN f:=by have:=hk;rwa [NN,r1.mo] at this
     rw [lack_other r1.mo hF.giv]
     exact (hF.done k hk hs (seen_zero f k)).1
    ·have hk:k<NN f:=by have:=hk;rwa [NN,r1.mo] at this
     have hj:j<MM f:=by have:=hj;rwa [MM,r1.mo] at this
     have hk':k'<NN f:=by have:=hk';rwa [NN,r1.mo] at this
     rw [gg,hF.giv] at hp
     rw [zcU r1.mo r1.cl] at ho
     exact (hF.done k hk hs (seen_zero f k)).2 j hj hp k' hk' ho
    ·have hk:k<NN f:=by have:=hk;rwa [NN,r1.mo] at this
     rw [zcU r1.mo r1.cl] at ho
     exact hF.own k hk ho
   | false =>
    have h0:r.1≠0:=beq_eq_false_iff_ne.1 h0
    rw [cond_false]
    have hG:=r5 (by omega)
    have hok:=gain_ok hf0 r1 hG hi r3
    have hlr:=gain_left r1.mo hG
    have ih:=drain_spec n r.2 hok (by rw [MM,r1.mo];exact hi) (by
     rw [hlr,if_pos rfl]
     show leftV f (i:Nat) - _<=_
     omega)
    refine ⟨ih.ok,ih.mo.trans r1.mo,ih.cl.trans r1.cl,fun j hj=>?_,ih.own,fun S hS=>ih.keep S (gain_closed r1 hG (hS.other rfl rfl rfl))⟩
    rw [ih.oth j hj,hlr,if_neg hj,Int.sub_zero];rfl
structure FillR (f f':Flow) (l:List Nat):Prop where
 ok:FlowOk f'
 mo:f'.1=f.1
 cl:f'.2.2.1=f.2.2.1
 oth:∀ j:Nat,j∉l->leftV f' (j:Nat)=leftV f (j:Nat)
 own:∀ i∈l,Spent f' i
 keep:∀ S,Closed f S->Closed f' S
theorem spent_keep {f f':Flow} {i:Nat} (h:Spent f i) (mo:f'.1=f.1) (cl:f'.2.2.1=f.2.2.1) (hl:leftV f' (i:Nat)=leftV f (i:Nat)) (keep:∀ S,Closed f S->Closed f' S):Spent f' i:=by
 rcases h with h | ⟨S,h1,h2⟩
 ·exact .inl (hl.trans h)
 ·refine .inr ⟨S,keep S h1,fun k hk ho=>h2 k (by have:=hk;rwa [NN,mo] at this) (by rw [zcU mo cl] at ho;exact ho)⟩
theorem fillL_spec:∀ (l:List Nat) (f:Flow),FlowOk f->(∀ i∈l,i<MM f)->l.Nodup->FillR f (fillL (ixs l) f) l
 | [],f,hf,_,_=>⟨hf,rfl,rfl,fun _ _=>rfl,fun _ h=>(by cases h),fun _ h=>h⟩
 | i::l,f,hf,hl,hn=>by
  have hi:=hl i List.mem_cons_self
  have hd:=drain_spec (leftV f (i:Nat)).toNat f hf hi (by omega)
  show FillR f (fillL (ixs l) (drain (leftV f (i:Nat)).toNat f (i:Nat))) (i::l)
  generalize drain (leftV f ((i:Nat):Int)).toNat f ((i:Nat):Int)=f1 at hd ⊢
  rw [List.nodup_cons] at hn
  have ih:=fillL_spec l f1 hd.ok (fun x hx=>by rw [MM,hd.mo];exact hl x (List.mem_cons_of_mem _ hx)) hn.2
  refine ⟨ih.ok,ih.mo.trans hd.mo,ih.cl.trans hd.cl,fun j hj=>?_,fun j hj=>?_,fun S hS=>ih.keep S (hd.keep S hS)⟩
  ·rw [ih.oth j fun h=>hj (List.mem_cons_of_mem _ h),hd.oth j fun h=>hj (h▸List.mem_cons_self)]
  ·rcases List.mem_cons.1 hj with rfl | hj
   ·exact spent_keep hd.own ih.mo ih.cl (ih.oth j hn.1) ih.keep
   ·exact ih.own j hj
theorem fillV_spec {f:Flow} (hf:FlowOk f):FillR f (fillV f) (List.range (MM f)) :=
 fillL_spec (List.range (MM f)) f hf (fun i hi=>List.mem_range.1 hi) List.nodup_range
structure IsFlow (m:Market) (op:Nat->Nat->Bool) (g:Nat->Nat->Int):Prop where
 pos:∀ i k,0<=g i k
 can:∀ i k,0<g i k->op i k=true
 row:∀ i,i<m.2.1.length->sumN m.1.length (g i)<=m.2.1.getD i 0
 col:∀ k,k<m.1.length->sumN m.2.1.length (fun i=>g i k)<=m.1.getD k 0
end Go.Tt
