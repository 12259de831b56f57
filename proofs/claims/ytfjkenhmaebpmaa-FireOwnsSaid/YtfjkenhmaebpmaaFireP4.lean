/-
  Chapter 3: the conditions of Stand and its closures, proved.
-/
import Derived.Test.YtfjkenhmaebpmaaFireP3
set_option linter.all false
set_option maxRecDepth 100000
set_option linter.unusedVariables false
namespace Go.Fire
open Go Go.Sx
theorem checks_ok {k:Kiln} {l:List Fire} {prog:List Int} (h:fire_check (k,prog,l)=0):kilnB k=true∧l.all fireB=true∧progB prog=true∧l.length≤8:=by
 have e:fire_check (k,prog,l)=cond (!kilnB k||!l.all fireB) 1 (cond (decide ((40:Int)<(prog.length:Int))||decide ((8:Int)<(l.length:Int))) 3 (cond (((prog.length:Int)==0)||prog.any fun n=>!heatB n) 2 0)):=rfl
 have ep:progB prog=(inB (prog.length:Int) 1 40&&prog.all heatB):=rfl
 have ea:(prog.any fun n=>!heatB n)=!prog.all heatB:=by rw [←any_not];simp
 rw [e,ea] at h
 rw [ep]
 cases hk:kilnB k with
 | false=>rw [hk] at h;simp at h
 | true =>
  cases hf:l.all fireB with
  | false=>rw [hk,hf] at h;simp at h
  | true =>
   rw [hk,hf] at h
   simp only [Bool.not_true,Bool.or_self,cond_false] at h
   by_cases h1:(40:Int)<(prog.length:Int)
   ·rw [decide_eq_true h1] at h;simp at h
   by_cases h2:(8:Int)<(l.length:Int)
   ·rw [decide_eq_true h2] at h;simp at h
   rw [decide_eq_false h1,decide_eq_false h2] at h
   simp only [Bool.or_self,cond_false] at h
   by_cases h0:(prog.length:Int)=0
   ·rw [h0] at h;simp at h
   rw [show ((prog.length:Int)==0)=false by simpa using h0] at h
   cases ha:prog.all heatB with
   | false=>rw [ha] at h;simp at h
   | true=>exact ⟨rfl,rfl,by rw [Bool.and_true];exact inB_iff.2 ⟨by omega,by omega⟩,by omega⟩
theorem v62 (x:Int × Int × Int × Kiln × (List Fire) × List Int) (hp:k62.pre x):V62 x:=by
 obtain ⟨i,p,t,k,l,prog⟩:=x
 obtain ⟨h1,h2,h3,hk,hl,hq⟩:(0≤i∧i<(l.length:Int))∧(0≤p∧p<(k.1.length:Int))∧0≤t∧kilnB k=true∧l.all fireB=true∧progB prog=true:=hp
 have K:=kiln_iff.1 hk
 have hn:=K.len
 have hpl:=K.place _ (getD_mem' k.1 ((0,0),0,0) p h2.1 h2.2)
 have hf:fireB (l.getD i.toNat (0,0,0,0,0,0))=true:=List.all_eq_true.1 hl _ (getD_mem' l _ i h1.1 h1.2)
 refine ⟨⟨h2.1,by show p<64;omega⟩,⟨?_,by show (0:Int)≤1;omega⟩,fun h=>?_,fun h=>⟨h1,h2,⟨⟨K.err,hpl,hf⟩,hq⟩,?_⟩⟩
 ·show (0:Int)≤Int.fdiv t (2^p.toNat)
  rw [Int.fdiv_eq_ediv_of_nonneg _ (Int.le_of_lt (Int.pow_pos (by omega)))]
  exact Int.ediv_nonneg h3 (Int.le_of_lt (Int.pow_pos (by omega)))
 ·have h:takenB t p=true:=h
  show false=cond (takenB t p) false _
  rw [h];rfl
 ·have h:takenB t p=false:=h
  show _=cond (takenB t p) false _
  rw [h];rfl
theorem fold_bd {can:Can} {next:Int→Int} {i taken:Int} {m:Int} (hnext:∀ t,0≤next t∧next t≤m):∀ {r:List Nat} {acc:Int},0≤acc∧acc≤m+1→0≤r.foldl (manyStep can next i taken) acc∧r.foldl (manyStep can next i taken) acc≤m+1
 | [],_,h=>h
 | p::r,acc,h=>by
  rw [List.foldl_cons]
  refine fold_bd hnext ?_
  unfold manyStep
  have:=hnext (takeV taken (p:Int))
  cases can (i,(p:Int),taken) with
  | true=>simp only [cond_true];omega
  | false=>exact h
theorem manyG_bd (can:Can) (places len:Nat):∀ (n:Nat) (taken:Int),0≤manyG can places len n taken∧manyG can places len n taken≤(n:Int)
 | 0,_=>⟨Int.le_refl _,Int.le_refl _⟩
 | n+1,taken=>by
  have:=fold_bd (can:=can) (i:=(len:Int) - ((n:Int)+1)) (taken:=taken) (m:=(n:Int)) (manyG_bd can places len n) (r:=List.range places) (acc:=manyG can places len n taken) (by have:=manyG_bd can places len n taken;omega)
  rw [manyG]
  exact ⟨this.1,by omega⟩
theorem take_bd {t p:Int} (ht:0≤t∧t<256) (hp:0≤p∧p<8):0≤takeV t p∧takeV t p<256:=by
 refine ⟨Int.natCast_nonneg _,?_⟩
 have h1:t.toNat<2^8:=by omega
 have h2:((1:Int)*2^p.toNat).toNat<2^8:=by
  obtain ⟨n,rfl⟩:∃ n:Nat,p=(n:Int):=⟨p.toNat,by omega⟩
  have hn:n<8:=by omega
  have e:(1:Int)*2^((n:Int).toNat)=((2^n:Nat):Int):=by rw [Int.one_mul,Int.toNat_natCast,Int.natCast_pow];rfl
  rw [e,Int.toNat_natCast]
  exact Nat.pow_lt_pow_right (by decide) hn
 have:=Nat.or_lt_two_pow h1 h2
 unfold takeV
 omega
theorem bit_in64 {p:Int} (hp:0≤p∧p<8):(0≤(1:Int)*2^p.toNat)∧Z.in64 (1*2^p.toNat):=by
 obtain ⟨n,rfl⟩:∃ n:Nat,p=(n:Int):=⟨p.toNat,by omega⟩
 have hn:n<8:=by omega
 have e:(1:Int)*2^((n:Int).toNat)=((2^n:Nat):Int):=by rw [Int.one_mul,Int.toNat_natCast,Int.natCast_pow];rfl
 have:(2:Nat)^n<2^8:=Nat.pow_lt_pow_right (by decide) hn
 rw [e]
 generalize (2:Nat)^n=q at this
 refine ⟨Int.natCast_nonneg _,?_⟩
 simp only [Z.in64]
 omega
theorem range_drop {n p:Nat} (h:p<n):(List.range n).drop p=p::(List.range n).drop (p+1):=by
 rw [drop_getD (List.range n) 0 p (by simpa using h)]
 simp [List.getD,h]
theorem v63 (x:Int × Int × (List Fire) × Kiln × Fun (Int × Int × Int) Bool) (hp:k63.pre x):V63 x:=by
 obtain ⟨i,t,l,k,F⟩:=x
 obtain ⟨h1,h2,h3,h4,h5⟩:(0≤i∧i≤(l.length:Int))∧(0≤t∧t<256)∧l.length≤8∧k.1.length≤8 ∧
  ∀ i p t,(0≤i∧i<(l.length:Int))→(0≤p∧p<(k.1.length:Int))→(0≤t∧t<256)→F.pre (i,p,t):=hp
 have e0:fire_Stand_2 (i,t,l,k,F)=manyV F.val k.1.length l.length i t:=rfl
 refine ⟨fun h=>?_,fun h=>?_⟩
 ·have h:(i==(l.length:Int))=true:=h
  have h:i=(l.length:Int):=by simpa using h
  refine ⟨rfl,rfl,trivial,trivial,rfl,rfl,?_⟩
  rw [e0,h,manyV,Int.sub_self];rfl
 have h:(i==(l.length:Int))=false:=h
 have h:i≠(l.length:Int):=by simpa using h
 obtain ⟨m,hm⟩:∃ m:Nat,((l.length:Int) - i).toNat=m+1:=⟨((l.length:Int) - i).toNat - 1,by omega⟩
 have hm1:((l.length:Int) - (i+1)).toNat=m:=by omega
 have hi:(l.length:Int) - ((m:Int)+1)=i:=by omega
 have e1:manyV F.val k.1.length l.length i t=(List.range k.1.length).foldl (manyStep F.val (manyG F.val k.1.length l.length m) i t) (manyG F.val k.1.length l.length m t):=by
  rw [manyV,hm,manyG,hi]
 have e2:∀ t',fire_Stand_2 (i+1,t',l,k,F)=manyG F.val k.1.length l.length m t':=fun t'=>by
  show manyV F.val k.1.length l.length (i+1) t'=_
  rw [manyV,hm1]
 refine ⟨trivial,trivial,trivial,trivial,fun y hy=>⟨trivial,trivial,trivial,trivial,trivial,fun _=>⟨rfl,rfl,trivial,trivial,rfl,rfl,hy⟩,fun hh=>(by cases hh)⟩,trivial,trivial,trivial,trivial,trivial,fun hh=>(by cases hh),fun _=>⟨by simp only [Z.in64];omega,⟨⟨⟨⟨by show 0≤i+1;omega,by show i+1≤(l.length:Int);omega⟩,h2,h3,h4,h5⟩,by show ((l.length:Int) - (i+1)).toNat<((l.length:Int) - i).toNat;omega⟩,⟨rfl,trivial,trivial,rfl,rfl,trivial⟩,rfl,trivial⟩,?_⟩⟩
 refine ⟨fun s=>∃ p:Nat,s.2=(p:Int)∧p≤k.1.length∧(0≤s.1∧s.1≤8)∧manyV F.val k.1.length l.length i t=((List.range k.1.length).drop p).foldl (manyStep F.val (manyG F.val k.1.length l.length m) i t) s.1,fun s=>((k.1.length:Int) - s.2).toNat,⟨0,rfl,Nat.zero_le _,?_,?_⟩,?_⟩
 ·show 0≤fire_Stand_2 (i+1,t,l,k,F)∧fire_Stand_2 (i+1,t,l,k,F)≤8
  rw [e2]
  have:=manyG_bd F.val k.1.length l.length m t
  omega
 ·show _=((List.range k.1.length).drop 0).foldl _ (fire_Stand_2 (i+1,t,l,k,F))
  rw [e2,e1,List.drop_zero]
 rintro ⟨acc,p0⟩ ⟨p,rfl,g1,g2,g3⟩
 simp only at g2 g3
 refine ⟨fun hd=>?_,fun hd=>?_⟩
 ·have hd:(p:Int)<(k.1.length:Int):=of_decide_eq_true hd
  have hpb:0≤(p:Int)∧(p:Int)<8:=by omega
  rw [range_drop (by omega),List.foldl_cons] at g3
  have tb:=take_bd h2 hpb
  have bb:=bit_in64 hpb
  have nb:=manyG_bd F.val k.1.length l.length m (takeV t (p:Int))
  refine ⟨h5 i p t ⟨h1.1,by omega⟩ ⟨hpb.1,hd⟩ h2,fun hv=>?_,fun hv=>?_⟩
  ·have hv:F.val (i,(p:Int),t)=true:=hv
   have es:manyStep F.val (manyG F.val k.1.length l.length m) i t acc p=max acc (1+manyG F.val k.1.length l.length m (takeV t (p:Int))):=by rw [manyStep,hv];rfl
   rw [es] at g3
   have e3:fire_Stand_2 (i+1,takeV t (p:Int),l,k,F)=manyG F.val k.1.length l.length m (takeV t (p:Int)):=e2 _
   refine ⟨by simp only [Z.in64];omega,⟨⟨hpb.1,by show (p:Int)<64;omega⟩,bb.2⟩,⟨h2.1,bb.1⟩,⟨⟨⟨⟨by show 0≤i+1;omega,by show i+1≤(l.length:Int);omega⟩,tb,h3,h4,h5⟩,by show ((l.length:Int) - (i+1)).toNat<((l.length:Int) - i).toNat;omega⟩,⟨rfl,trivial,trivial,rfl,rfl,trivial⟩,rfl,trivial⟩,?_,by simp only [Z.in64];omega,trivial,rfl,⟨rfl,trivial,trivial,rfl,rfl,trivial⟩,⟨p+1,by simp only;omega,by omega,?_,?_⟩,by simp only;omega⟩
   ·show Z.in64 (1+fire_Stand_2 (i+1,takeV t (p:Int),l,k,F))
    rw [e3];simp only [Z.in64];omega
   ·show 0≤max acc (1+fire_Stand_2 (i+1,takeV t (p:Int),l,k,F))∧max acc (1+fire_Stand_2 (i+1,takeV t (p:Int),l,k,F))≤8
    rw [e3];omega
   ·show _=List.foldl _ (max acc (1+fire_Stand_2 (i+1,takeV t (p:Int),l,k,F))) _
    rw [e3];exact g3
  ·have hv:F.val (i,(p:Int),t)=false:=hv
   have es:manyStep F.val (manyG F.val k.1.length l.length m) i t acc p=acc:=by rw [manyStep,hv];rfl
   rw [es] at g3
   exact ⟨by simp only [Z.in64];omega,trivial,rfl,⟨rfl,trivial,trivial,rfl,rfl,trivial⟩,⟨p+1,by simp only;omega,by omega,g2,g3⟩,by simp only;omega⟩
 ·have hd:¬ (p:Int)<(k.1.length:Int):=of_decide_eq_false hd
  rw [List.drop_eq_nil_of_le (by simp;omega),List.foldl_nil] at g3
  exact ⟨g3.symm,rfl,rfl,trivial,trivial,rfl,rfl,g3.symm⟩
theorem can_pre {k:Kiln} {l:List Fire} {prog:List Int} (hk:kilnB k=true) (hf:l.all fireB=true) (hq:progB prog=true) {i p t:Int} (h1:0≤i∧i<(l.length:Int)) (h2:0≤p∧p<(k.1.length:Int)) (h3:0≤t):fire_Stand_1u_p (i,p,t,k,l,prog) :=
 ⟨h1,h2,h3,hk,hf,hq⟩
theorem v23 (x:Kiln × (List Fire) × List Int) (hp:k23.pre x):V23 x:=by
 obtain ⟨k,l,prog⟩:=x
 have e:fire_Stand (k,l,prog)=standV k l prog:=rfl
 refine ⟨hp,fun h=>?_,fun h=>?_⟩
 ·have h:(!(fire_check (k,prog,l)==0))=true:=h
  rw [e,standV,h];rfl
 have h:(!(fire_check (k,prog,l)==0))=false:=h
 obtain ⟨hk,hf,hq,hl⟩:=checks_ok (by simpa using h)
 have K:=kiln_iff.1 hk
 have hn:=K.len
 obtain ⟨C,hC⟩:∃ C:Can,C=(canOf k l prog).val:=⟨_,rfl⟩
 obtain ⟨np,hnp⟩:∃ np,np=k.1.length:=⟨_,rfl⟩
 obtain ⟨nl,hnl⟩:∃ nl,nl=l.length:=⟨_,rfl⟩
 have eS:fire_Stand (k,l,prog)=(standGo C np nl nl 0 0,0):=by rw [e,standV,h,hC,hnp,hnl];rfl
 have eC:∀ i p t,fire_Stand_1 (i,p,t,k,l,prog)=C (i,p,t):=fun i p t=>by rw [hC];rfl
 have eM:∀ i t,fire_Stand_2 (i,t,l,k,canOf k l prog)=manyV C np nl i t:=fun i t=>by rw [hC,hnp,hnl];rfl
 have pM:∀ i t,(0≤i∧i≤(nl:Int))→(0≤t∧t<256)→fire_Stand_2u_p (i,t,l,k,canOf k l prog):=fun i t h1 h2 =>
  ⟨by rw [hnl] at h1;exact h1,h2,hl,by show k.1.length≤8;omega,fun i p t h1 h2 h3=>can_pre hk hf hq h1 h2 h3.1⟩
 refine ⟨fun s=>∃ i:Nat,s.2.2=(i:Int)∧i≤nl∧s.1.length=i∧(0≤s.2.1∧s.2.1<256)∧standGo C np nl nl 0 0=s.1++standGo C np nl (nl - i) i s.2.1,fun s=>((nl:Int) - s.2.2).toNat,
  ⟨0,rfl,Nat.zero_le _,rfl,by show (0:Int)≤0∧(0:Int)<256;omega,rfl⟩,?_⟩
 rintro ⟨out,t,i0⟩ ⟨i,rfl,g1,g2,g3,g4⟩
 simp only at g2 g3 g4
 refine ⟨fun hd=>?_,fun hd=>?_⟩
 rotate_left
 ·have hd:¬ (i:Int)<(l.length:Int):=of_decide_eq_false hd
  rw [show nl - i=0 by omega,standGo,List.append_nil] at g4
  show (out,(0:Int))=fire_Stand (k,l,prog)
  rw [eS,g4]
 have hd:(i:Int)<(l.length:Int):=of_decide_eq_true hd
 obtain ⟨r,hr⟩:∃ r,nl - i=r+1:=⟨nl - i - 1,by omega⟩
 have hr':nl - (i+1)=r:=by omega
 rw [hr,standGo] at g4
 obtain ⟨P,hP⟩:∃ P,P=placeAt C np nl (i:Int) t np 0:=⟨_,rfl⟩
 rw [←hP] at g4
 refine ⟨fun s=>∃ p:Nat,s.2=(p:Int)∧p≤np∧(s.1=-1∨(0≤s.1∧s.1<(np:Int)))∧P=cond (s.1==-1) (placeAt C np nl (i:Int) t (np - p) p) s.1,fun s=>((np:Int) - s.2).toNat,
  ⟨0,rfl,Nat.zero_le _,.inl rfl,by rw [hP];rfl⟩,?_⟩
 rintro ⟨q,p0⟩ ⟨p,rfl,b1,b2,b3⟩
 simp only at b2 b3
 refine ⟨fun he=>?_,fun he=>?_⟩
 ·have he:(p:Int)<(k.1.length:Int):=of_decide_eq_true he
  have hpb:0≤(p:Int)∧(p:Int)<8:=by omega
  have tb:=take_bd g3 hpb
  have bb:=bit_in64 hpb
  have n1:=manyG_bd C np nl ((nl:Int) - ((i:Int)+1)).toNat (takeV t (p:Int))
  have hi1:0≤(i:Int)+1∧(i:Int)+1≤(nl:Int):=by omega
  have hi0:0≤(i:Int)∧(i:Int)≤(nl:Int):=by omega
  obtain ⟨p',hp'⟩:∃ p',np - p=p'+1:=⟨np - p - 1,by omega⟩
  have hp'':np - (p+1)=p':=by omega
  rw [hp',placeAt] at b3
  refine ⟨fun _=>can_pre hk hf hq ⟨hi0.1,hd⟩ ⟨hpb.1,he⟩ g3.1,fun _=>by simp only [Z.in64];omega,fun _=>⟨⟨hpb.1,by show (p:Int)<64;omega⟩,bb.2⟩,fun _=>⟨g3.1,bb.1⟩,
   fun _=>⟨pM _ _ hi1 tb,⟨rfl,trivial,trivial,rfl,rfl,trivial⟩,rfl,trivial⟩,fun _=>?_,fun _=>⟨pM _ _ hi0 g3,⟨rfl,trivial,trivial,rfl,rfl,trivial⟩,rfl,trivial⟩,fun hv=>?_,fun hv=>?_⟩
  ·show Z.in64 (1+fire_Stand_2 ((i:Int)+1,takeV t (p:Int),l,k,canOf k l prog))
   rw [eM,manyV];simp only [Z.in64];omega
  ·have hv:(((q==(-1))&&fire_Stand_1 ((i:Int),(p:Int),t,k,l,prog))&&(1+fire_Stand_2 ((i:Int)+1,takeV t (p:Int),l,k,canOf k l prog)==fire_Stand_2 ((i:Int),t,l,k,canOf k l prog)))=true:=hv
   rw [eC,eM,eM] at hv
   simp only [Bool.and_eq_true] at hv
   obtain ⟨⟨v1,v2⟩,v3⟩:=hv
   rw [v1,cond_true,v2,v3] at b3
   refine ⟨by simp only [Z.in64];omega,rfl,rfl,trivial,rfl,⟨rfl,trivial,trivial,rfl,rfl,trivial⟩,⟨p+1,by simp only;omega,by omega,.inr ⟨hpb.1,by show (p:Int)<(np:Int);omega⟩,?_⟩,by simp only;omega⟩
   show P=cond ((p:Int)==-1) _ (p:Int)
   rw [show ((p:Int)==-1)=false by simp,cond_false,b3];rfl
  ·have hv:(((q==(-1))&&fire_Stand_1 ((i:Int),(p:Int),t,k,l,prog))&&(1+fire_Stand_2 ((i:Int)+1,takeV t (p:Int),l,k,canOf k l prog)==fire_Stand_2 ((i:Int),t,l,k,canOf k l prog)))=false:=hv
   rw [eC,eM,eM] at hv
   refine ⟨by simp only [Z.in64];omega,rfl,rfl,trivial,rfl,⟨rfl,trivial,trivial,rfl,rfl,trivial⟩,⟨p+1,by simp only;omega,by omega,b2,?_⟩,by simp only;omega⟩
   show P=cond (q==-1) (placeAt C np nl (i:Int) t (np - (p+1)) (p+1)) q
   rw [hp'']
   cases hq1:(q==-1) with
   | false=>rw [hq1] at b3;exact b3
   | true =>
    rw [hq1] at b3 hv
    simp only [Bool.true_and] at hv
    rw [hv] at b3
    exact b3
 ·have he:¬ (p:Int)<(k.1.length:Int):=of_decide_eq_false he
  rw [show np - p=0 by omega,placeAt] at b3
  have hPq:P=q:=by
   rw [b3]
   cases hq1:(q==-1) with
   | false=>rfl
   | true=>exact (by simpa using hq1:q=-1).symm
  have e1:(List.replicate 1 (0:Int)).set 0 q=[q]:=rfl
  rw [hPq] at g4
  refine ⟨fun hv=>?_,fun hv=>?_⟩
  ·have hv:(q==-1)=false:=not_iff.1.1 hv
   have hq0:0≤q∧q<8:=by
    rcases b2 with b2 | b2
    ·rw [b2] at hv;cases hv
    ·omega
   have bb:=bit_in64 hq0
   rw [hv,cond_false] at g4
   refine ⟨⟨⟨hq0.1,by show q<64;omega⟩,bb.2⟩,⟨g3.1,bb.1⟩,roomy_of (by omega) (by omega) ?_,by simp only [Z.in64];omega,rfl,trivial,rfl,⟨rfl,trivial,trivial,rfl,rfl,trivial⟩,⟨i+1,by simp only;omega,by omega,?_,take_bd g3 hq0,?_⟩,by simp only;omega⟩
   ·show ((out++[q]).length:Int)≤_
    simp only [List.length_append,List.length_singleton];omega
   ·show (out++[q]).length=_
    simp only [List.length_append,List.length_singleton];omega
   ·show _=(out++[q])++_
    rw [g4,hr',List.append_assoc];rfl
  ·have hv:(q==-1)=true:=not_iff.2.1 hv
   rw [hv,cond_true] at g4
   refine ⟨roomy_of (by omega) (by omega) ?_,by simp only [Z.in64];omega,rfl,trivial,rfl,⟨rfl,trivial,trivial,rfl,rfl,trivial⟩,⟨i+1,by simp only;omega,by omega,?_,g3,?_⟩,by simp only;omega⟩
   ·show ((out++[q]).length:Int)≤_
    simp only [List.length_append,List.length_singleton];omega
   ·show (out++[q]).length=_
    simp only [List.length_append,List.length_singleton];omega
   ·show _=(out++[q])++_
    rw [g4,hr',List.append_assoc];rfl
end Go.Fire
