/-
  Chapter 10: all pairs, in their order. Plain Lean; no program in sight.
-/
import Derived.Test.YtdpfmofgibmifaaOrdO5
set_option linter.all false
set_option maxRecDepth 100000
set_option maxHeartbeats 1000000
set_option linter.unusedVariables false
namespace Go.Ord
open Go Go.Sx
def closeP (c:List Int) (i k:Nat):List Int:=c.set ((i:Nat):Int).toNat ((((c.getD ((i:Nat):Int).toNat 0).toNat ||| (1*2^((k:Nat):Int).toNat:Int).toNat:Nat):Int))
structure Ready (m:Market) (c:List Int) (r:List (Nat × Nat)):Prop where
 ok:ShareOk m c
 dim:∀ p∈r,p.1<m.2.1.length∧p.2<m.1.length
 nod:r.Nodup
 op:∀ i k,i<m.2.1.length->k<m.1.length->hasB (m.2.2.getD i 0) (k:Nat)=true->(hasB (c.getD i 0) (k:Nat)=false↔(i,k)∈r)
theorem close_get {c:List Int} (h8:c.length=8) {i k:Nat} (hi:i<8) (a b:Nat):hasB ((closeP c i k).getD a 0) (b:Nat)=(hasB (c.getD a 0) (b:Nat)||decide (a=i∧b=k)):=by
 simp only [closeP,Int.toNat_natCast]
 rw [less_getD (by omega)]
 by_cases e:a=i
 ·subst e
  rw [if_pos rfl]
  have:=has_or (s:=c.getD a 0) (k:=k) (j:=b)
  simp only [Int.toNat_natCast] at this
  rw [this]
  by_cases e2:b=k
  ·rw [decide_eq_true e2.symm,decide_eq_true ⟨rfl,e2⟩]
  ·rw [decide_eq_false (fun h=>e2 h.symm),decide_eq_false (fun h=>e2 h.2)]
 ·rw [if_neg e,decide_eq_false (fun h=>e h.1),Bool.or_false]
theorem ready_skip {m:Market} {c:List Int} {i k:Nat} {r:List (Nat × Nat)} (h:Ready m c ((i,k)::r)) (hs:hasB (m.2.2.getD i 0) (k:Nat)=false):Ready m c r:=by
 refine ⟨h.ok,fun p hp=>h.dim p (List.mem_cons_of_mem _ hp),(List.nodup_cons.1 h.nod).2,fun a b ha hb hsv=>?_⟩
 rw [h.op a b ha hb hsv]
 constructor
 ·intro hm
  rcases List.mem_cons.1 hm with e | hm
  ·cases e;rw [hs] at hsv;cases hsv
  ·exact hm
 ·exact List.mem_cons_of_mem _
theorem ready_open {m:Market} {c:List Int} {i k:Nat} {r:List (Nat × Nat)} (h:Ready m c ((i,k)::r)) (hs:hasB (m.2.2.getD i 0) (k:Nat)=true):opF m c i k=true∧Pair m c i k (mostOf m c (i:Nat) (k:Nat)):=by
 obtain ⟨hi,hk⟩:=h.dim (i,k) List.mem_cons_self
 have hop:opF m c i k=true:=by
  have:=(h.op i k hi hk hs).2 List.mem_cons_self
  simp only [opF,hs,this];rfl
 exact ⟨hop,most_pair h.ok hi hk hop⟩
theorem ready_step {m:Market} {c:List Int} {i k:Nat} {r:List (Nat × Nat)} (h:Ready m c ((i,k)::r)) (hs:hasB (m.2.2.getD i 0) (k:Nat)=true) :
  Ready (lessV m (i:Nat) (k:Nat) (mostOf m c (i:Nat) (k:Nat))) (closeP c i k) r:=by
 obtain ⟨hi,hk⟩:=h.dim (i,k) List.mem_cons_self
 have hi:i<m.2.1.length:=hi
 have hk:k<m.1.length:=hk
 obtain ⟨_,hp⟩:=ready_open h hs
 have m8:=h.ok.mo.m8
 have a8:=h.ok.mo.a8
 have hl:=less_share h.ok hi hk hp.nn hp.l1 hp.l2
 have hcl:smallSet (c.getD i 0):=h.ok.cs _ (zaz _ 0 i (by have:=h.ok.c8;omega))
 refine ⟨⟨hl.mo,by simp [closeP,h.ok.c8],fun s hm=>?_⟩,fun p hpm=>?_,(List.nodup_cons.1 h.nod).2,fun a b ha hb hsv=>?_⟩
 ·refine set_mem (p:=smallSet) h.ok.cs ?_ hm
  have:=or_small (s:=c.getD i 0) (k:=k) hcl (by omega)
  simp only [Int.toNat_natCast] at this ⊢
  exact this
 ·have:=h.dim p (List.mem_cons_of_mem _ hpm)
  simpa [lessV] using this
 ·have ha:a<m.2.1.length:=by simpa [lessV] using ha
  have hb:b<m.1.length:=by simpa [lessV] using hb
  have hsv:hasB (m.2.2.getD a 0) (b:Nat)=true:=hsv
  rw [close_get h.ok.c8 (by omega),Bool.or_eq_false_iff,h.op a b ha hb hsv,decide_eq_false_iff_not]
  constructor
  ·rintro ⟨h1,h2⟩
   rcases List.mem_cons.1 h1 with e | h1
   ·cases e;exact absurd ⟨rfl,rfl⟩ h2
   ·exact h1
  ·intro h1
   refine ⟨List.mem_cons_of_mem _ h1,fun e=>?_⟩
   obtain ⟨rfl,rfl⟩:=e
   exact (List.nodup_cons.1 h.nod).1 h1
end Go.Ord
