/-
  Chapter 10: pushes, what they do to a flow. Plain Lean; no program in sight.
-/
import Derived.Test.YtdhdklojcppfcaaTtO1
set_option linter.all false
set_option maxRecDepth 100000
set_option maxHeartbeats 1000000
set_option linter.unusedVariables false
namespace Go.Tt
open Go Go.Sx
def ixs (l:List Nat):List Int:=l.map fun k=>((k:Nat):Int)
theorem idx_ixs (n:Nat):idx n=ixs (List.range n):=rfl
def PushSpec (P:Push) (b:Nat):Prop:=∀ (f:Flow) (i:Nat) (most:Int),FlowOk f->i<MM f->0<most->unseen f<b->Result f i most (P f (i:Nat) most)
structure Half (f f':Flow) (i k:Nat) (n:Int):Prop where
 g8:f'.2.1.length=8
 r8:∀ r∈f'.2.1,r.length=8
 pos:∀ j m,0<=gg f' j m
 can:∀ j m,0<gg f' j m->j<MM f∧m<NN f∧openB f j m=true
 row:∀ j:Nat,rowS f'.2.1 (j:Nat) 8=rowS f.2.1 (j:Nat) 8
 col:∀ m:Nat,m<NN f->colS f'.2.1 (m:Nat) (MM f)+(if m=k then n else 0)<=(mkt f.1).1.getD m 0
 old:∀ m,seenB f m=true->∀ j,gg f' j m=gg f j m
 cut:∀ S:Nat->Prop,Closed f S->¬ S k∧∀ m,m<NN f->S m->∀ j,gg f' j m=gg f j m
theorem znf {f:Flow} (h:FlowOk f) {k:Nat} (hk:k<NN f):0<=lackingV f (k:Nat):=by
 have:=h.col k hk
 simp only [lackingV,Int.toNat_natCast]
 omega
theorem zew (P:Push) (i k most:Int) (l:List Int) {n:Int} (f:Flow) (h:n≠0):fromL P i k most l n f=(n,f):=by
 cases l with
 | nil=>rfl
 | cons j l =>
  have:(n==0)=false:=beq_eq_false_iff_ne.2 h
  rw [fromL,this];rfl
theorem Half.gain {f f':Flow} {i k:Nat} {n:Int} (hf:FlowOk f) (h:Half f f' i k n) (hi:i<MM f) (hk:k<NN f) (ho:openB f i k=true) (hs:seenB f k=false) (hn:0<n) :
  Gain f (f'.1,setG f'.2.1 (i:Nat) (k:Nat) (gg f' i k+n),f'.2.2) i n:=by
 have i8:i<8:=by have:=hf.m8;omega
 have k8:k<8:=by have:=hf.n8;omega
 have hg:=fun v j m=>zeN h.g8 h.r8 i8 k8 v j m
 refine ⟨(zfb h.g8 h.r8 i8 _).1,(zfb h.g8 h.r8 i8 _).2,fun j m=>?_,fun j m hp=>?_,fun j=>?_,fun m hm=>?_,fun m hm j=>?_,fun S hS=>⟨⟨k,hk,ho,(h.cut S hS).1⟩,fun m hmn hm j=>?_⟩⟩
 ·show 0<=getG (setG _ _ _ _) _ _
  rw [hg]
  split
  ·have:=h.pos i k;omega
  ·exact h.pos j m
 ·have hp:0<getG (setG f'.2.1 (i:Nat) (k:Nat) (gg f' i k+n)) (j:Nat) (m:Nat):=hp
  rw [hg] at hp
  split at hp
  ·rename_i e;rw [e.1,e.2];exact ⟨hi,hk,ho⟩
  ·exact h.can j m hp
 ·show rowS (setG _ _ _ _) _ _=_
  rw [zn h.g8 h.r8 i8 k8,h.row]
  show _+(if j=i then gg f' i k+n - gg f' i k else 0)=_
  by_cases e:j=i
  ·rw [if_pos e,if_pos e];omega
  ·rw [if_neg e,if_neg e]
 ·have:=h.col m hm
  show colS (setG _ _ _ _) _ _<=_
  rw [znr h.g8 h.r8 i8 k8 _ _ _ hi]
  show _+(if m=k then gg f' i k+n - gg f' i k else 0)<=_
  by_cases e:m=k
  ·rw [if_pos e] at this ⊢;omega
  ·rw [if_neg e] at this ⊢;omega
 ·show getG (setG _ _ _ _) _ _=_
  rw [hg,if_neg]
  ·exact h.old m hm j
  ·rintro ⟨_,rfl⟩;rw [hs] at hm;cases hm
 ·show getG (setG _ _ _ _) _ _=_
  rw [hg,if_neg]
  ·exact (h.cut S hS).2 m hmn hm j
  ·rintro ⟨_,rfl⟩;exact (h.cut S hS).1 hm
theorem Gain.half {f fc f':Flow} {i j k:Nat} {n:Int} (hf:FlowOk f) (hm:Mild (markV f (k:Nat)) fc) (hg:fc.2.1=f.2.1) (h:Gain fc f' j n) (hj:j<MM f) (hk:k<NN f)
  (hp:0<gg f j k) (hle:n<=gg f j k) (hn:0<n) (h0:lackingV f (k:Nat)=0) (hsf:seenB f k=false):Half f (f'.1,setG f'.2.1 (j:Nat) (k:Nat) (gg f' j k - n),f'.2.2) i k n:=by
 have hmo:fc.1=f.1:=hm.mo
 have hcl:fc.2.2.1=f.2.2.1:=hm.cl
 have hN:NN fc=NN f:=by rw [NN,hmo]
 have hM:MM fc=MM f:=by rw [MM,hmo]
 have hO:∀ a b,openB fc a b=openB f a b:=zcW hmo hcl
 have hG:∀ a b,gg fc a b=gg f a b:=fun a b=>by rw [gg,hg]
 have j8:j<8:=by have:=hf.m8;omega
 have k8:k<8:=by have:=hf.n8;omega
 have hsk:seenB fc k=true:=hm.grow k (by rw [zdD];simp)
 have hgs:=fun v a m=>zeN h.g8 h.r8 j8 k8 v a m
 have hkc:∀ a,gg f' a k=gg f a k:=fun a=>(h.old k hsk a).trans (hG a k)
 refine ⟨(zfb h.g8 h.r8 j8 _).1,(zfb h.g8 h.r8 j8 _).2,fun a m=>?_,fun a m hp'=>?_,fun a=>?_,fun m hmn=>?_,fun m hsm a=>?_,fun S hS=>?_⟩
 ·show 0<=getG (setG _ _ _ _) _ _
  rw [hgs]
  split
  ·have:=hkc j;omega
  ·exact h.pos a m
 ·have hp':0<getG (setG f'.2.1 (j:Nat) (k:Nat) (gg f' j k - n)) (a:Nat) (m:Nat):=hp'
  rw [hgs] at hp'
  split at hp'
  ·rename_i e;rw [e.1,e.2];exact hf.op hp
  ·have:=h.can a m hp'
   rwa [hM,hN,hO] at this
 ·show rowS (setG _ _ _ _) _ _=_
  rw [zn h.g8 h.r8 j8 k8,h.row,hg]
  show _+(if a=j then gg f' j k - n - gg f' j k else 0)=_
  by_cases e:a=j
  ·rw [if_pos e,if_pos e];omega
  ·rw [if_neg e,if_neg e];omega
 ·show colS (setG _ _ _ _) _ _+_<=_
  rw [znr h.g8 h.r8 j8 k8 _ _ _ hj]
  show _+(if m=k then gg f' j k - n - gg f' j k else 0)+_<=_
  have:=h.col m (by rw [hN];exact hmn)
  rw [hM,hmo] at this
  by_cases e:m=k
  ·rw [if_pos e,if_pos e];omega
  ·rw [if_neg e,if_neg e];omega
 ·show getG (setG _ _ _ _) _ _=_
  have hmk:seenB fc m=true:=hm.grow m (by rw [zdD,hsm];rfl)
  rw [hgs,if_neg]
  ·exact (h.old m hmk a).trans (hG a m)
  ·rintro ⟨_,rfl⟩;rw [hsf] at hsm;cases hsm
 ·have hS':Closed fc S:=hS.other hmo hcl hg
  obtain ⟨⟨k',h1,h2,h3⟩,h4⟩:=h.cut S hS'
  have hnk:¬ S k:=fun hSk=>h3 (hS.back k hk hSk j hj hp k' (by rwa [hN] at h1) (by rwa [hO] at h2))
  refine ⟨hnk,fun m hmn hSm a=>?_⟩
  show getG (setG _ _ _ _) _ _=_
  rw [hgs,if_neg]
  ·exact (h4 m (by rw [hN];exact hmn) hSm a).trans (hG a m)
  ·rintro ⟨_,rfl⟩;exact hnk hSm
end Go.Tt
