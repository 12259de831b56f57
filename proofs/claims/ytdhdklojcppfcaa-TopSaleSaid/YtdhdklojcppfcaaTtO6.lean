/-
  Chapter 10: all pairs, in their order. Plain Lean; no program in sight.
-/
import Derived.Test.YtdhdklojcppfcaaTtO5
set_option linter.all false
set_option maxRecDepth 100000
set_option maxHeartbeats 1000000
set_option linter.unusedVariables false
open Bool renaming and_eq_true->yac,not_eq_true'->yaF,or_eq_false_iff->ydW
open Int renaming le_antisymm->ydC,toNat_natCast->ydw
open List renaming mem_cons->yaq,mem_cons_of_mem->yal,mem_cons_self->yam,nodup_cons->ycB
namespace Go.Tt
open Go Go.Sx
def closeP (c:List Int) (i k:Nat):List Int:=c.set ((i:Nat):Int).toNat ((((c.getD ((i:Nat):Int).toNat 0).toNat ||| (1*2^((k:Nat):Int).toNat:Int).toNat:Nat):Int))
def asg:List (Nat × Nat)->Market->List Int->Nat->Nat->Int
 | [],_,_=>fun _ _=>0
 | (i,k)::r,m,c=>cond (hasB (m.2.2.getD i 0) (k:Nat))
  (addP (asg r (lessV m (i:Nat) (k:Nat) (mostOf m c (i:Nat) (k:Nat))) (closeP c i k)) i k (mostOf m c (i:Nat) (k:Nat))) (asg r m c)
def stp:List (Nat × Nat)->Market × List Int->Market × List Int
 | [],s=>s
 | (i,k)::r,s=>cond (hasB (s.1.2.2.getD i 0) (k:Nat)) (stp r (lessV s.1 (i:Nat) (k:Nat) (mostOf s.1 s.2 (i:Nat) (k:Nat)),closeP s.2 i k)) (stp r s)
structure Ready (m:Market) (c:List Int) (r:List (Nat × Nat)):Prop where
 ok:ShareOk m c
 dim:∀ p∈r,p.1<m.2.1.length/\p.2<m.1.length
 nod:r.Nodup
 op:∀ i k,i<m.2.1.length->k<m.1.length->hasB (m.2.2.getD i 0) (k:Nat)=true->(hasB (c.getD i 0) (k:Nat)=false↔(i,k)∈r)
theorem ziU {c:List Int} (h8:c.length=8) {i k:Nat} (hi:i<8) (a b:Nat):hasB ((closeP c i k).getD a 0) (b:Nat)=(hasB (c.getD a 0) (b:Nat)||decide (a=i/\b=k)):=by
 simp only [closeP,ydw]
 rw [zev (by omega)]
 by_cases e:a=i
 ·subst e
  rw [if_pos rfl]
  have:=has_or (s:=c.getD a 0) (k:=k) (j:=b)
  simp only [ydw] at this
  rw [this]
  by_cases e2:b=k
  ·rw [decide_eq_true e2.symm,decide_eq_true ⟨rfl,e2⟩]
  ·rw [decide_eq_false (fun h=>e2 h.symm),decide_eq_false (fun h=>e2 h.2)]
 ·rw [if_neg e,decide_eq_false (fun h=>e h.1),Bool.or_false]
theorem znT {m:Market} {c:List Int} {i k:Nat} {r:List (Nat × Nat)} (h:Ready m c ((i,k)::r)) (hs:hasB (m.2.2.getD i 0) (k:Nat)=false):Ready m c r:=by
 refine ⟨h.ok,fun p hp=>h.dim p (yal _ hp),(ycB.1 h.nod).2,fun a b ha hb hsv=>?_⟩
 rw [h.op a b ha hb hsv]
 constructor
 ·intro hm
  rcases yaq.1 hm with e | hm
  ·cases e;rw [hs] at hsv;cases hsv
  ·exact hm
 ·exact yal _
theorem zjB {m:Market} {c:List Int} {i k:Nat} {r:List (Nat × Nat)} (h:Ready m c ((i,k)::r)) (hs:hasB (m.2.2.getD i 0) (k:Nat)=true):opF m c i k=true/\Pair m c i k (mostOf m c (i:Nat) (k:Nat)):=by
 obtain ⟨hi,hk⟩:=h.dim (i,k) yam
 have hop:opF m c i k=true:=by
  have:=(h.op i k hi hk hs).2 yam
  simp only [opF,hs,this];rfl
 exact ⟨hop,zoR h.ok hi hk hop⟩
theorem znS {m:Market} {c:List Int} {i k:Nat} {r:List (Nat × Nat)} (h:Ready m c ((i,k)::r)) (hs:hasB (m.2.2.getD i 0) (k:Nat)=true) :
  Ready (lessV m (i:Nat) (k:Nat) (mostOf m c (i:Nat) (k:Nat))) (closeP c i k) r:=by
 obtain ⟨hi,hk⟩:=h.dim (i,k) yam
 have hi:i<m.2.1.length:=hi
 have hk:k<m.1.length:=hk
 obtain ⟨_,hp⟩:=zjB h hs
 have m8:=h.ok.mo.m8
 have a8:=h.ok.mo.a8
 have hl:=zgP h.ok hi hk hp.nn hp.l1 hp.l2
 have hcl:smallSet (c.getD i 0):=h.ok.cs _ (zan _ 0 i (by have:=h.ok.c8;omega))
 refine ⟨⟨hl.mo,by simp [closeP,h.ok.c8],fun s hm=>?_⟩,fun p hpm=>?_,(ycB.1 h.nod).2,fun a b ha hb hsv=>?_⟩
 ·refine set_mem (p:=smallSet) h.ok.cs ?_ hm
  have:=zkt (s:=c.getD i 0) (k:=k) hcl (by omega)
  simp only [ydw] at this ⊢
  exact this
 ·have:=h.dim p (yal _ hpm)
  simpa [lessV] using this
 ·have ha:a<m.2.1.length:=by simpa [lessV] using ha
  have hb:b<m.1.length:=by simpa [lessV] using hb
  have hsv:hasB (m.2.2.getD a 0) (b:Nat)=true:=hsv
  rw [ziU h.ok.c8 (by omega),ydW,h.op a b ha hb hsv,decide_eq_false_iff_not]
  constructor
  ·rintro ⟨h1,h2⟩
   rcases yaq.1 h1 with e | h1
   ·cases e;exact absurd ⟨rfl,rfl⟩ h2
   ·exact h1
  ·intro h1
   refine ⟨yal _ h1,fun e=>?_⟩
   obtain ⟨rfl,rfl⟩:=e
   exact (ycB.1 h.nod).1 h1
theorem zoZ {m:Market} (h:MarketOk m) (op:Nat->Nat->Bool):IsFlow m op (fun _ _=>0):=by
 refine ⟨fun _ _=>Int.le_refl _,fun i k hp=>absurd hp (by decide),fun i hi=>?_,fun k hk=>?_⟩
 ·rw [zbl];exact (h.many _ (zan _ 0 i hi)).1
 ·rw [zbl];exact (h.asked _ (zan _ 0 k hk)).1
theorem flow_op {m:Market} {op op':Nat->Nat->Bool} {g:Nat->Nat->Int} (h:IsFlow m op g) (hop:∀ i k,0<g i k->op i k=true->op' i k=true):IsFlow m op' g :=
 ⟨h.pos,fun i k hp=>hop i k hp (h.can i k hp),h.row,h.col⟩
theorem zkW:∀ (r:List (Nat × Nat)) (m:Market) (c:List Int),Ready m c r->IsFlow m (opF m c) (asg r m c)/\valF m (asg r m c)=topV m c/\∀ a b,0<asg r m c a b->(a,b)∈r
 | [],m,c,h=>by
  refine ⟨zoZ h.ok.mo _,?_,fun a b hp=>absurd hp (by show ¬ (0:Int)<0;decide)⟩
  obtain ⟨g,hg,hd,hv⟩:=zhS h.ok
  rw [<-hv]
  show valF m (fun _ _=>0)=valF m g
  have:g=fun _ _=>0:=by
   funext a b
   rcases Int.lt_or_le 0 (g a b) with hp | hp
   ·have ho:=hg.can a b hp
    obtain ⟨h1,h2⟩:=hd a b hp
    simp only [opF,yac,yaF] at ho
    have:=(h.op a b h1 h2 ho.1).1 ho.2
    cases this
   ·exact ydC hp (hg.pos a b)
  rw [this]
 | (i,k)::r,m,c,h=>by
  obtain ⟨hi,hk⟩:=h.dim (i,k) yam
  have hi:i<m.2.1.length:=hi
  have hk:k<m.1.length:=hk
  have m8:=h.ok.mo.m8
  rw [asg]
  cases hs:hasB (m.2.2.getD i 0) (k:Nat) with
  | false =>
   rw [cond_false]
   obtain ⟨h1,h2,h3⟩:=zkW r m c (znT h hs)
   exact ⟨h1,h2,fun a b hp=>yal _ (h3 a b hp)⟩
  | true =>
   rw [cond_true]
   obtain ⟨hop,hp⟩:=zjB h hs
   have hr:=znS h hs
   obtain ⟨h1,h2,h3⟩:=zkW r _ _ hr
   generalize mostOf m c ((i:Nat):Int) ((k:Nat):Int)=low at hp hr h1 h2 h3 ⊢
   generalize asg r (lessV m (i:Nat) (k:Nat) low) (closeP c i k)=g at h1 h2 h3 ⊢
   have hl:=zgP h.ok hi hk hp.nn hp.l1 hp.l2
   have hsub:∀ a b,opF m (closeP c i k) a b=true->opF m c a b=true:=by
    intro a b ho
    simp only [opF,ziU h.ok.c8 (show i<8 by omega),yac,yaF,ydW] at ho ⊢
    exact ⟨ho.1,ho.2.1⟩
   have h1:IsFlow (lessV m (i:Nat) (k:Nat) low) (opF m (closeP c i k)) g:=h1
   have hf:=zkG (n':=0) hi hk hsub hop hp.nn h1
   rw [zeL,Int.sub_zero] at hf
   rw [zeB] at h2
   have heq:topV (lessV m (i:Nat) (k:Nat) low) (closeP c i k)=topV (lessV m (i:Nat) (k:Nat) low) c:=by
    refine ydC ?_ ?_
    ·rw [<-h2]
     have:=flow_le hl (flow_op h1 fun a b _ ho=>hsub a b ho)
     rwa [zeB] at this
    ·obtain ⟨g',hg',hd,hv⟩:=zhS hl
     rw [zeB] at hv
     have hz:=hp.none g' hg' hv
     rw [<-hv]
     have:=flow_le hr.ok (flow_op (op':=opF m (closeP c i k)) hg' fun a b hpos ho=>by
      have ho:opF m c a b=true:=ho
      simp only [opF,ziU h.ok.c8 (show i<8 by omega),yac,yaF,ydW] at ho ⊢
      refine ⟨ho.1,ho.2,decide_eq_false fun e=>?_⟩
      rw [e.1,e.2,hz] at hpos
      exact absurd hpos (by decide))
     rwa [zeB] at this
   refine ⟨hf,?_,fun a b hpos=>?_⟩
   ·rw [zhG m g hi hk,h2,heq]
    have:=hp.val
    omega
   ·simp only [addP] at hpos
    split at hpos
    ·rename_i e;rw [e.1,e.2];exact yam
    ·exact yal _ (h3 a b (by omega))
end Go.Tt
