/-
  Chapter 10: what is shared out, pair by pair. Plain Lean; no program in sight.
-/
import Derived.Test.YtdhdklojcppfcaaTtOT
set_option linter.all false
set_option maxRecDepth 100000
set_option maxHeartbeats 1000000
set_option linter.unusedVariables false
open Int renaming le_refl->ydz,le_trans->yaV,toNat_natCast->ydw
open List renaming getD->yda,mem_range->ycU
namespace Go.Tt
open Go Go.Sx
def opF (m:Market) (c:List Int) (i k:Nat):Bool:=hasB (m.2.2.getD i 0) (k:Nat)&&!hasB (c.getD i 0) (k:Nat)
def topV (m:Market) (c:List Int):Int:=totalV (fillV (some m,zeros,c,0))
theorem zhS {m:Market} {c:List Int} (h:ShareOk m c):∃ g,IsFlow m (opF m c) g/\(∀ i k,0<g i k->i<m.2.1.length/\k<m.1.length)/\valF m g=topV m c:=by
 have hs:=zhJ h
 have hF:=zfw hs
 have hmo:(fillV (some m,zeros,c,0)).1=some m:=hF.mo
 have hcl:(fillV (some m,zeros,c,0)).2.2.1=c:=hF.cl
 have hmk:mkt (fillV (some m,zeros,c,0)).1=m:=by rw [hmo];rfl
 have hop:openB (fillV (some m,zeros,c,0))=opF m c:=by
  funext i k
  simp only [openB,hmk,hcl,opF]
 have h1:=flow_of hF.ok
 have h2:=zif hF.ok
 rw [hmk] at h1 h2
 rw [hop] at h1
 refine ⟨_,h1,fun i k hp=>?_,h2.symm⟩
 have:=hF.ok.op hp
 rw [NN,MM,hmk] at this
 exact ⟨this.1,this.2.1⟩
theorem flow_le {m:Market} {c:List Int} (h:ShareOk m c) {g:Nat->Nat->Int} (hg:IsFlow m (opF m c) g):valF m g<=topV m c:=by
 have hs:=zhJ h
 have hF:=zfw hs
 have hmo:(fillV (some m,zeros,c,0)).1=some m:=hF.mo
 have hcl:(fillV (some m,zeros,c,0)).2.2.1=c:=hF.cl
 have hmk:mkt (fillV (some m,zeros,c,0)).1=m:=by rw [hmo];rfl
 have hop:openB (fillV (some m,zeros,c,0))=opF m c:=by
  funext i k
  simp only [openB,hmk,hcl,opF]
 obtain ⟨Y,hY⟩:=zlm hF.ok (fun i hi=>hF.own i (ycU.2 (by
  have:i<(mkt (fillV (some m,zeros,c,0)).1).2.1.length:=hi
  rw [hmk] at this;exact this)))
 have h2:=zif hF.ok
 rw [hmk,hop] at hY
 rw [hmk] at h2
 have:=cut_le hg (fun i hi=>(h.mo.many _ (zan _ 0 i hi)).1) Y
 rw [topV,h2,hY];exact this
theorem top_cut {m:Market} {c:List Int} (h:ShareOk m c):∃ Y:Nat->Bool,topV m c=askedS m - lackO m (opF m c) Y:=by
 have hs:=zhJ h
 have hF:=zfw hs
 have hmo:(fillV (some m,zeros,c,0)).1=some m:=hF.mo
 have hcl:(fillV (some m,zeros,c,0)).2.2.1=c:=hF.cl
 have hmk:mkt (fillV (some m,zeros,c,0)).1=m:=by rw [hmo];rfl
 have hop:openB (fillV (some m,zeros,c,0))=opF m c:=by
  funext i k
  simp only [openB,hmk,hcl,opF]
 obtain ⟨Y,hY⟩:=zlm hF.ok (fun i hi=>hF.own i (ycU.2 (by
  have:i<(mkt (fillV (some m,zeros,c,0)).1).2.1.length:=hi
  rw [hmk] at this;exact this)))
 have h2:=zif hF.ok
 rw [hmk,hop] at hY
 rw [hmk] at h2
 exact ⟨Y,by rw [topV,h2,hY]⟩
def addP (g:Nat->Nat->Int) (i k:Nat) (n:Int) (a b:Nat):Int:=g a b+if a=i/\b=k then n else 0
theorem zeZ (g:Nat->Nat->Int) {i k N:Nat} (hk:k<N) (n:Int) (a:Nat):sumN N (addP g i k n a)=sumN N (g a)+if a=i then n else 0:=by
 rw [zeD (g:=g a) (k:=k)]
 ·rw [if_pos hk]
  by_cases e:a=i
  ·rw [if_pos e];subst e;simp only [addP,eq_self,and_self,if_true];omega
  ·rw [if_neg e];simp only [addP,if_neg (fun h:a=i/\k=k=>e h.1)];omega
 ·intro b _ hb
  simp only [addP,if_neg (fun h:a=i/\b=k=>hb h.2)];omega
theorem zhh (g:Nat->Nat->Int) {i k M:Nat} (hi:i<M) (n:Int) (b:Nat):sumN M (fun a=>addP g i k n a b)=sumN M (fun a=>g a b)+if b=k then n else 0:=by
 rw [zeD (g:=fun a=>g a b) (k:=i)]
 ·rw [if_pos hi]
  by_cases e:b=k
  ·rw [if_pos e];subst e;simp only [addP,eq_self,and_self,if_true];omega
  ·rw [if_neg e];simp only [addP,if_neg (fun h:i=i/\b=k=>e h.2)];omega
 ·intro a _ ha
  simp only [addP,if_neg (fun h:a=i/\b=k=>ha h.1)];omega
theorem zhG (m:Market) (g:Nat->Nat->Int) {i k:Nat} (hi:i<m.2.1.length) (hk:k<m.1.length) (n:Int):valF m (addP g i k n)=valF m g+n:=by
 simp only [valF,zeZ g hk]
 rw [zeD (g:=fun a=>sumN m.1.length (g a)) (k:=i)]
 ·rw [if_pos hi,if_pos rfl];omega
 ·intro a _ ha
  rw [if_neg ha];omega
theorem zev {l:List Int} {j:Nat} (hj:j<l.length) (v:Int) (a:Nat):(l.set j v).getD a 0=if a=j then v else l.getD a 0:=by
 by_cases e:a=j
 ·subst e
  rw [if_pos rfl]
  simp [yda,hj]
 ·rw [if_neg e]
  simp only [yda]
  rw [List.getElem?_set_ne (fun h=>e h.symm)]
theorem zkG {m:Market} {op op':Nat->Nat->Bool} {g:Nat->Nat->Int} {i k:Nat} {n n':Int} (hi:i<m.2.1.length) (hk:k<m.1.length) (hop:∀ a b,op' a b=true->op a b=true) (ho:op i k=true) (hn:n'<=n)
  (h:IsFlow (lessV m (i:Nat) (k:Nat) n) op' g):IsFlow (lessV m (i:Nat) (k:Nat) n') op (addP g i k (n - n')):=by
 have l1:(lessV m (i:Nat) (k:Nat) n').1.length=m.1.length:=by simp [lessV]
 have l2:(lessV m (i:Nat) (k:Nat) n').2.1.length=m.2.1.length:=by simp [lessV]
 have l3:(lessV m (i:Nat) (k:Nat) n).1.length=m.1.length:=by simp [lessV]
 have l4:(lessV m (i:Nat) (k:Nat) n).2.1.length=m.2.1.length:=by simp [lessV]
 refine ⟨fun a b=>?_,fun a b hp=>?_,fun a ha=>?_,fun b hb=>?_⟩
 ·have:=h.pos a b
  simp only [addP]
  split<;>omega
 ·simp only [addP] at hp
  split at hp
  ·rename_i e;rw [e.1,e.2];exact ho
  ·exact hop a b (h.can a b (by omega))
 ·rw [l2] at ha
  have:=h.row a (by rw [l4];exact ha)
  rw [l3] at this
  rw [l1,zeZ g hk]
  simp only [lessV,ydw,zev hi] at this ⊢
  by_cases e:a=i
  ·subst e;simp only [eq_self,if_true] at this ⊢;omega
  ·simp only [if_neg e] at this ⊢;omega
 ·rw [l1] at hb
  have:=h.col b (by rw [l3];exact hb)
  rw [l4] at this
  rw [l2,zhh g hi]
  simp only [lessV,ydw,zev hk] at this ⊢
  by_cases e:b=k
  ·subst e;simp only [eq_self,if_true] at this ⊢;omega
  ·simp only [if_neg e] at this ⊢;omega
theorem zpX {m:Market} {op:Nat->Nat->Bool} {g:Nat->Nat->Int} {i k:Nat} {n n':Int} (hi:i<m.2.1.length) (hk:k<m.1.length) (hn:n'<=n) (hg:n - n'<=g i k)
  (h:IsFlow (lessV m (i:Nat) (k:Nat) n') op g):IsFlow (lessV m (i:Nat) (k:Nat) n) op (addP g i k (n' - n)):=by
 have l1:(lessV m (i:Nat) (k:Nat) n').1.length=m.1.length:=by simp [lessV]
 have l2:(lessV m (i:Nat) (k:Nat) n').2.1.length=m.2.1.length:=by simp [lessV]
 have l3:(lessV m (i:Nat) (k:Nat) n).1.length=m.1.length:=by simp [lessV]
 have l4:(lessV m (i:Nat) (k:Nat) n).2.1.length=m.2.1.length:=by simp [lessV]
 refine ⟨fun a b=>?_,fun a b hp=>?_,fun a ha=>?_,fun b hb=>?_⟩
 ·have:=h.pos a b
  simp only [addP]
  split
  ·rename_i e;rw [e.1,e.2] at this ⊢;omega
  ·omega
 ·simp only [addP] at hp
  have:0<g a b:=by split at hp<;>omega
  exact h.can a b this
 ·rw [l4] at ha
  have:=h.row a (by rw [l2];exact ha)
  rw [l1] at this
  rw [l3,zeZ g hk]
  simp only [lessV,ydw,zev hi] at this ⊢
  by_cases e:a=i
  ·subst e;simp only [eq_self,if_true] at this ⊢;omega
  ·simp only [if_neg e] at this ⊢;omega
 ·rw [l3] at hb
  have:=h.col b (by rw [l1];exact hb)
  rw [l2] at this
  rw [l4,zhh g hi]
  simp only [lessV,ydw,zev hk] at this ⊢
  by_cases e:b=k
  ·subst e;simp only [eq_self,if_true] at this ⊢;omega
  ·simp only [if_neg e] at this ⊢;omega
theorem zeB (m:Market) (i k n:Int) (g:Nat->Nat->Int):valF (lessV m i k n) g=valF m g:=by
 simp [valF,lessV]
theorem zeL (m:Market) (i k:Nat):lessV m (i:Nat) (k:Nat) 0=m:=znY m i k
theorem zkT {P:Int->Bool} {B:Int} (hmono:∀ n n',0<=n'->n'<=n->n<=B->P n=true->P n'=true):∀ (f:Nat) (low high:Int),0<=low->low<=high->high<=B->high - low<=f->P low=true->(high=B\/P (high+1)=false) ->
  P (bisV P f low high)=true/\(bisV P f low high=B\/P (bisV P f low high+1)=false)
 | 0,low,high,h0,h1,h2,h3,h4,h5=>by
  have e:low=high:=by simp at h3;omega
  rw [bisV];exact ⟨h4,by rw [e];exact h5⟩
 | f+1,low,high,h0,h1,h2,h3,h4,h5=>by
  rw [bisV]
  cases hl:decide (low<high) with
  | false =>
   have hl:=of_decide_eq_false hl
   have e:low=high:=by omega
   rw [cond_false];exact ⟨h4,by rw [e];exact h5⟩
  | true =>
   have hl:=of_decide_eq_true hl
   have hm:=mid_bd h0 hl
   rw [cond_true]
   generalize Int.tdiv (low+high+1) 2=m at hm ⊢
   cases hP:P m with
   | true=>rw [cond_true];exact zkT hmono f m high (by omega) hm.2 h2 (by omega) hP h5
   | false=>rw [cond_false];exact zkT hmono f low (m - 1) h0 (by omega) (by omega) (by omega) h4 (.inr (by rw [Int.sub_add_cancel];exact hP))
structure Pair (m:Market) (c:List Int) (i k:Nat) (low:Int):Prop where
 nn:0<=low
 l1:low<=m.2.1.getD i 0
 l2:low<=m.1.getD k 0
 val:low+topV (lessV m (i:Nat) (k:Nat) low) c=topV m c
 most:∀ g,IsFlow m (opF m c) g->valF m g=topV m c->g i k<=low
 none:∀ g,IsFlow (lessV m (i:Nat) (k:Nat) low) (opF m c) g->valF m g=topV (lessV m (i:Nat) (k:Nat) low) c->g i k=0
theorem zgP {m:Market} {c:List Int} (h:ShareOk m c) {i k:Nat} {n:Int} (hi:i<m.2.1.length) (hk:k<m.1.length) (h0:0<=n) (h1:n<=m.2.1.getD i 0) (h2:n<=m.1.getD k 0):ShareOk (lessV m (i:Nat) (k:Nat) n) c :=
 ⟨less_ok h.mo hi hk h0 h1 h2,h.c8,h.cs⟩
theorem znl {m:Market} {op:Nat->Nat->Bool} {g:Nat->Nat->Int} (h:IsFlow m op g) {i k:Nat} (hi:i<m.2.1.length) (hk:k<m.1.length):g i k<=m.2.1.getD i 0/\g i k<=m.1.getD k 0 :=
 ⟨yaV (sumN_ge (fun b _=>h.pos i b) hk) (h.row i hi),yaV (sumN_ge (f:=fun a=>g a k) (fun a _=>h.pos a k) hi) (h.col k hk)⟩
theorem zoR {m:Market} {c:List Int} (h:ShareOk m c) {i k:Nat} (hi:i<m.2.1.length) (hk:k<m.1.length) (ho:opF m c i k=true):Pair m c i k (mostOf m c (i:Nat) (k:Nat)):=by
 have hmi:=h.mo.many _ (zan _ 0 i hi)
 have hak:=h.mo.asked _ (zan _ 0 k hk)
 obtain ⟨B,hB⟩:∃ B,B=min (m.2.1.getD i 0) (m.1.getD k 0):=⟨_,rfl⟩
 have hB0:0<=B:=by rw [hB];have:=hmi.1;have:=hak.1;omega
 have hBm:∀ n,n<=B->n<=m.2.1.getD i 0/\n<=m.1.getD k 0:=fun n hn=>by rw [hB] at hn;omega
 have share:∀ n,0<=n->n<=B->ShareOk (lessV m (i:Nat) (k:Nat) n) c:=fun n h0 hn=>zgP h hi hk h0 (hBm n hn).1 (hBm n hn).2
 have llen:∀ n,(lessV m (i:Nat) (k:Nat) n).1.length=m.1.length/\(lessV m (i:Nat) (k:Nat) n).2.1.length=m.2.1.length:=fun n=>by simp [lessV]
 have mono:∀ n n',0<=n'->n'<=n->n<=B->n+topV (lessV m (i:Nat) (k:Nat) n) c<=n'+topV (lessV m (i:Nat) (k:Nat) n') c:=by
  intro n n' h0 h1 h2
  obtain ⟨g,hg,_,hv⟩:=zhS (share n (by omega) h2)
  have hf:=zkG (op:=opF m c) hi hk (fun a b hh=>hh) ho h1 hg
  have:=flow_le (share n' h0 (by omega)) hf
  rw [zeB,zhG m g hi hk] at this
  rw [zeB] at hv
  omega
 have e0:topV (lessV m (i:Nat) (k:Nat) 0) c=topV m c:=by rw [zeL]
 let P:Int->Bool:=fun n=>n+totalV (leastV m c (i:Nat) (k:Nat) n)==totalV (leastV m c (i:Nat) (k:Nat) 0)
 have hP:∀ n,P n=true↔n+topV (lessV m (i:Nat) (k:Nat) n) c=topV m c:=by
  intro n
  show (n+topV (lessV m (i:Nat) (k:Nat) n) c==topV (lessV m (i:Nat) (k:Nat) 0) c)=true↔_
  rw [e0,beq_iff_eq]
 have hmono:∀ n n',0<=n'->n'<=n->n<=B->P n=true->P n'=true:=by
  intro n n' h0 h1 h2 hp
  rw [hP] at hp ⊢
  have a:=mono n n' h0 h1 h2
  have b:=mono n' 0 (ydz _) h0 (by omega)
  rw [e0] at b
  omega
 have hlow:mostOf m c (i:Nat) (k:Nat)=bisV P B.toNat 0 B:=by
  rw [hB];simp only [mostOf,ydw];rfl
 have hbd:=bisV_bd P B.toNat 0 B (ydz _) hB0
 have hbs:=zkT hmono B.toNat 0 B (ydz _) hB0 (ydz _) (by omega) ((hP 0).2 (by rw [e0];omega)) (.inl rfl)
 rw [<-hlow] at hbd hbs
 generalize mostOf m c (i:Nat) (k:Nat)=low at hbd hbs
 have hval:=(hP low).1 hbs.1
 have most:∀ g,IsFlow m (opF m c) g->valF m g=topV m c->g i k<=low:=by
  intro g hg hv
  refine Classical.byContradiction fun hn=>?_
  have hcap:=znl hg hi hk
  have hlB:low+1<=B:=by rw [hB];omega
  rcases hbs.2 with e | e
  ·omega
  ·have hg':IsFlow (lessV m (i:Nat) (k:Nat) 0) (opF m c) g:=by rw [zeL];exact hg
   have hf:=zpX hi hk (show 0<=low+1 by omega) (by omega) hg'
   have:=flow_le (share (low+1) (by omega) hlB) hf
   rw [zeB,zhG m g hi hk] at this
   have b:=mono (low+1) 0 (ydz _) (by omega) hlB
   rw [e0] at b
   have:P (low+1)=true:=(hP _).2 (by omega)
   rw [e] at this;cases this
 refine ⟨hbd.1,(hBm low hbd.2).1,(hBm low hbd.2).2,hval,most,fun g hg hv=>?_⟩
 have hf:=zkG (op:=opF m c) (n':=0) hi hk (fun a b hh=>hh) ho hbd.1 hg
 rw [zeL,Int.sub_zero] at hf
 have h1:=most _ hf (by rw [zhG m g hi hk,hv];omega)
 have h2:=hg.pos i k
 simp only [addP,eq_self,and_self,if_true] at h1
 omega
end Go.Tt
