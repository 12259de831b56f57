/-
  Orders: what Share and Lack give.
-/
import Derived.Test.YtdhdklojcppfcaaTtOT
set_option linter.all false
set_option maxRecDepth 100000
set_option maxHeartbeats 4000000
set_option linter.unusedVariables false
namespace Go.Tt
open Go Go.Sx
theorem shareK_pos (i:Int):∀ (ks l:List Int) (m:Market) (c:List Int) (b:Nat),0<(shareK i ks l m c).1.getD b 0->0<l.getD b 0∨hasB (m.2.2.getD i.toNat 0) (b:Nat)=true
 | [],l,m,c,b,h=>.inl h
 | k::ks,l,m,c,b,h=>by
  rw [shareK] at h
  cases hb:hasB (m.2.2.getD i.toNat 0) k with
  | false=>rw [hb,cond_false] at h;exact shareK_pos i ks l m c b h
  | true =>
   rw [hb,cond_true] at h
   rcases shareK_pos i ks _ _ _ b h with h | h
   ·by_cases e:b=k.toNat
    ·right
     subst e
     have e2:((k.toNat:Nat):Int).toNat=k.toNat:=Int.toNat_natCast _
     show (m.2.2.getD i.toNat 0).toNat.testBit ((k.toNat:Nat):Int).toNat=true
     rw [e2];exact hb
    ·left
     simpa [List.getD,List.getElem?_set,Ne.symm e] using h
   ·exact .inr h
theorem shareK_mkt (i:Int):∀ (ks l:List Int) (m:Market) (c:List Int),(shareK i ks l m c).2.1.2.2=m.2.2
 | [],_,_,_=>rfl
 | k::ks,l,m,c=>by
  rw [shareK]
  cases hasB (m.2.2.getD i.toNat 0) k with
  | false=>rw [cond_false];exact shareK_mkt i ks l m c
  | true=>rw [cond_true];exact shareK_mkt i ks _ _ _
theorem shareI_pos (N:Nat):∀ (is:List Int) (m:Market) (c:List Int) (t b:Nat),t<is.length->0<((shareI N is m c).getD t []).getD b 0->hasB (m.2.2.getD (is.getD t 0).toNat 0) (b:Nat)=true
 | [],_,_,_,_,ht,_=>by cases ht
 | i::is,m,c,0,b,_,h=>by
  rcases shareK_pos i (idx N) (List.replicate N 0) m c b h with h | h
  ·exfalso
   simp only [List.getD,List.getElem?_replicate] at h
   split at h<;>simp at h
  ·exact h
 | i::is,m,c,t+1,b,ht,h=>by
  have:=shareI_pos N is _ _ t b (by simpa using ht) h
  rwa [shareK_mkt] at this
theorem idx_getD {n t:Nat} (h:t<n):(idx n).getD t 0=(t:Int):=by simp [idx,List.getD,h]
theorem share_pos {m:Market} {i k:Nat} (hi:i<m.2.1.length) (h:0<((shareV m).getD i []).getD k 0):hasB (m.2.2.getD i 0) (k:Nat)=true:=by
 have:=shareI_pos m.1.length (idx m.2.1.length) m (List.replicate 8 0) i k (by simpa [idx] using hi) h
 rwa [idx_getD hi,Int.toNat_natCast] at this
theorem shareV_len (m:Market):(shareV m).length=m.2.1.length:=by rw [shareV,share_len];simp [idx]
theorem shareV_row {m:Market} {i:Nat} (hi:i<m.2.1.length):((shareV m).getD i []).length=m.1.length :=
 share_rows m.1.length _ m _ _ (zaS _ [] i (by have:=shareV_len m;rw [shareV] at this;omega))
structure LackIs (s:Sale):Prop where
 f:(0<(zaf s).2.1∧(zaf s).2.2=0)∨((zaf s).2.1=0∧(zaf s).2.2=4)
 s0:0<=(zaf s).1
 s1:(zaf s).1<2^s.2.length
 val:lackM (worstM s) (zaf s).1=(zaf s).2.1
theorem lack_is {s:Sale} (h:saleB s=true):LackIs s:=by
 have hm:=most_spec (lackM (worstM s)) (setsTo (2^s.2.length))
 have e:zaf s=cond (mostV (lackM (worstM s)) (setsTo (2^s.2.length))==(0,0)) (0,0,4) ((mostV (lackM (worstM s)) (setsTo (2^s.2.length))).1,(mostV (lackM (worstM s)) (setsTo (2^s.2.length))).2,0):=by
  rw [zaf,h,cond_true,parts_all]
 have hp:(1:Int)<=2^s.2.length:=by rw [pow_nat];have:=Nat.pow_pos (n:=s.2.length) (show 0<2 by decide);omega
 by_cases hz:mostV (lackM (worstM s)) (setsTo (2^s.2.length))=(0,0)
 ·have e:zaf s=(0,0,4):=by rw [e,hz];rfl
  exact ⟨.inr ⟨by rw [e],by rw [e]⟩,by rw [e];exact Int.le_refl 0,by rw [e];show (0:Int)<_;omega,by rw [e];exact lack_empty _⟩
 ·have hb:(mostV (lackM (worstM s)) (setsTo (2^s.2.length))==(0,0))=false:=by
   rw [Bool.eq_false_iff];intro hh;exact hz (eq_of_beq hh)
  rw [hb,cond_false] at e
  obtain ⟨h1,h2⟩:=hm.val hz
  have hr:=setsTo_mem.1 h1
  have h0:(mostV (lackM (worstM s)) (setsTo (2^s.2.length))).2≠0:=fun hh=>hz (hm.zero hh)
  have hn:=hm.nn
  refine ⟨.inl ⟨?_,by rw [e]⟩,by rw [e];exact hr.1,?_,by rw [e];exact h2⟩
  ·rw [e];show 0<(mostV (lackM (worstM s)) (setsTo (2^s.2.length))).2;omega
  ·rw [e,pow_nat];exact hr.2
end Go.Tt
