/-
  Chapter 10: OrderShare.
-/
import Derived.Test.YtdpfmofgibmifaaOrdO7
set_option linter.all false
set_option maxRecDepth 100000
set_option maxHeartbeats 4000000
set_option linter.unusedVariables false
namespace Go.Ord
open Go Go.Sx
theorem v9 (x:Sale) (_:k9.pre x):V9 x:=by
 refine ⟨trivial,fun _=>⟨trivial,rfl⟩,fun hg=>?_⟩
 have hsh:=great_short hg
 refine ⟨trivial,fun _=>hsh,fun hb=>?_,fun hb=>?_⟩
 ·cases h:saleB x with
  | true =>
   exfalso
   have eS:order_Share x=(shareV (worstM x),0):=by rw [order_Share,h];rfl
   have hb:((!((order_Share x).2==0))||(!(saleB x)))=true:=hb
   rw [h,eS] at hb
   cases hb
  | false =>
   have eS:order_Share x=([],1):=by rw [order_Share,h];rfl
   refine ⟨fun _=>hsh,fun _=>trivial,?_⟩
   show ((((order_Share x).2==1)&&(((order_Share x).1.length:Int)==0))&&(!(saleB x))&&true)=true
   rw [h,eS];rfl
 have h:saleB x=true:=by
  have hb:((!((order_Share x).2==0))||(!(saleB x)))=false:=hb
  rw [Bool.or_eq_false_iff] at hb
  simpa using hb.2
 have eS:order_Share x=(shareV (worstM x),0):=by rw [order_Share,h];rfl
 obtain ⟨sup,ord⟩:=x
 have S:=sale_iff.1 h
 have W:=worst_ok h
 have hs8:sup.length≤8:=S.s8
 have ho8:ord.length≤8:=S.o8
 obtain ⟨m,hm⟩:∃ m,m=worstM (sup,ord):=⟨_,rfl⟩
 obtain ⟨Sh,hSh⟩:∃ Sh,Sh=(order_Share (sup,ord)).1:=⟨_,rfl⟩
 have hShv:Sh=shareV m:=by rw [hSh,eS,hm]
 rw [←hm] at W
 have mN:m.1.length=ord.length:=by rw [hm];simp [worstM,marketV]
 have mM:m.2.1.length=sup.length:=by rw [hm];simp [worstM,marketV]
 have hlen:Sh.length=sup.length:=by
  rw [hShv,shareV,share_len]
  simp [idx,mM]
 have hrow:∀ i,i<sup.length→(Sh.getD i []).length=ord.length:=by
  intro i hi
  have hmem:=getD_mem Sh [] i (by omega)
  rw [hShv] at hmem ⊢
  have:=share_rows _ _ _ _ _ hmem
  rw [this,mN]
 obtain ⟨G,hG⟩:∃ G,G=shareG m:=⟨_,rfl⟩
 have hget:∀ i k,i<sup.length→k<ord.length→(Sh.getD i []).getD k 0=G i k:=by
  intro i k hi hk
  rw [hShv,hG]
  exact share_get m (by omega) (by omega)
 have hR:=ready_start W
 obtain ⟨hF,hV,_⟩:=asg_spec _ _ _ hR
 have hF:IsFlow m (opF m c0) G:=by rw [hG];exact hF
 have hV:valF m G=topV m c0:=by rw [hG];exact hV
 have hop:∀ i k,0<G i k→hasB (m.2.2.getD i 0) (k:Nat)=true:=by
  intro i k hp
  have:=hF.can i k hp
  simp only [opF,Bool.and_eq_true] at this
  exact this.1
 have hcap:∀ i k,i<sup.length→k<ord.length→0≤G i k∧G i k≤topN:=by
  intro i k hi hk
  have h1:=(flow_cap hF (i:=i) (k:=k) (by omega) (by omega)).1
  have h2:=(W.many _ (getD_mem m.2.1 0 i (by omega))).2
  exact ⟨hF.pos i k,by omega⟩
 have c1:(ref10u_Worst (sup,ord)).1=m.2.1:=by rw [hm];rfl
 have c2:∀ i k,i<sup.length→k<ord.length→((ref10u_Worst (sup,ord)).2.getD i []).getD k false=hasB (m.2.2.getD i 0) (k:Nat):=by
  intro i k hi hk
  have hc:=caseM_worst (sup,ord)
  have e:m.2.2.getD i 0=setOf ((worstC (sup,ord)).2.getD i []):=by
   rw [hm,←hc]
   simp only [caseM,List.getD,List.getElem?_map]
   cases (worstC (sup,ord)).2[i]?<;>rfl
  rw [e,has_setOf];rfl
 have c2l:(ref10u_Worst (sup,ord)).2.length=sup.length:=by
  show (worstC (sup,ord)).2.length=_
  simp [worstC,caseOf]
 have c2r:∀ i,i<sup.length→((ref10u_Worst (sup,ord)).2.getD i []).length=ord.length:=by
  intro i hi
  have:=(worstC_ok h).rows _ (getD_mem (worstC (sup,ord)).2 [] i (by rw [show (worstC (sup,ord)).2=(ref10u_Worst (sup,ord)).2 from rfl,c2l];exact hi))
  rw [asked_len] at this
  exact this
 have ask:∀ k,k<ord.length→m.1.getD k 0=(ord.getD k (0,0,0,0)).2.1:=by
  intro k hk
  rw [hm]
  show (ord.map fun o=>o.2.1).getD k 0=_
  simp [List.getD,hk]
 have sumb:∀ (f:Nat→Int) (n:Nat),n≤8→(∀ j,j<n→0≤f j∧f j≤topN)→0≤sumN n f∧sumN n f≤8*topN:=by
  intro f n hn hf
  refine ⟨sumN_nonneg fun j hj=>(hf j hj).1,?_⟩
  have key:∀ k,k≤n→sumN k f≤(k:Int)*topN:=by
   intro k
   induction k with
   | zero=>intro _;simp [sumN_zero]
   | succ k ih =>
    intro hk
    have:=ih (by omega)
    have:=(hf k (by omega)).2
    rw [sumN_succ]
    simp only [topN] at *
    omega
  have:=key n (Nat.le_refl _)
  simp only [topN] at this ⊢
  omega
 have rowb:∀ i,i<sup.length→∀ k,k≤ord.length→0≤sumN k (G i)∧sumN k (G i)≤8*topN:=fun i hi k hk=>sumb (G i) k (by omega) fun j hj=>hcap i j hi (by omega)
 have colb:∀ b,b<ord.length→∀ i,i≤sup.length→0≤sumN i (fun a=>G a b)∧sumN i (fun a=>G a b)≤8*topN:=fun b hb i hi=>sumb (fun a=>G a b) i (by omega) fun j hj=>hcap j b (by omega) hb
 have allb:∀ i,i≤sup.length→0≤sumN i (fun a=>sumN ord.length (G a))∧sumN i (fun a=>sumN ord.length (G a))≤64*topN:=by
  intro i hi
  refine ⟨sumN_nonneg fun a ha=>(rowb a (by omega) _ (Nat.le_refl _)).1,?_⟩
  have key:∀ k,k≤i→sumN k (fun a=>sumN ord.length (G a))≤(k:Int)*(8*topN):=by
   intro k
   induction k with
   | zero=>intro _;simp [sumN_zero]
   | succ k ih =>
    intro hk
    have:=ih (by omega)
    have:=(rowb k (by omega) _ (Nat.le_refl _)).2
    rw [sumN_succ]
    simp only [topN] at *
    omega
  have:=key i (Nat.le_refl _)
  simp only [topN] at this ⊢
  omega
 rw [←hSh]
 refine ⟨fun hb=>?_,fun _=>?_⟩
 ·exfalso
  have hb:(!((Sh.length:Int)==(sup.length:Int)))=true:=hb
  rw [hlen] at hb
  simp at hb
 refine ⟨h,⟨⟨by omega,Int.le_refl _⟩,rm1 (by show (ord.length:Int)≤100;omega)⟩,fun s=>0≤s.2.1∧s.2.1≤(sup.length:Int)∧s.1=sumN s.2.1.toNat (fun a=>sumN ord.length (G a))∧s.2.2.length=ord.length∧∀ b:Nat,b<ord.length→s.2.2.getD b 0=sumN s.2.1.toNat (fun a=>G a b),fun s=>((sup.length:Int) - s.2.1).toNat,⟨by simp,by simp,rfl,by simp,fun b hb=>?_⟩,?_⟩
 ·show (List.replicate (Int.toNat (ord.length:Int)) (0:Int)).getD b 0=0
  rw [Int.toNat_natCast]
  simp [List.getD,hb]
 rintro ⟨all,i,gets⟩ ⟨i1,i2,hall,hgl,hgt⟩
 simp only at i1 i2 hall hgl hgt ⊢
 refine ⟨fun hi=>?_,fun hi=>?_⟩
 ·have hi:=of_decide_eq_true hi
  rw [hlen] at hi
  obtain ⟨i,rfl⟩:=Int.eq_ofNat_of_zero_le i1
  have hiM:i<sup.length:=by omega
  have hr:=hrow i hiM
  rw [Int.toNat_natCast] at hall hgt
  rw [Int.toNat_natCast]
  have hmi:=W.many _ (getD_mem m.2.1 0 i (by omega))
  have hab:=allb i (by omega)
  refine ⟨⟨by omega,by omega⟩,⟨by omega,by rw [c1];omega⟩,fun hb=>?_,fun _=>⟨fun s=>0≤s.2.2.1∧s.2.2.1≤(ord.length:Int)∧s.1=all+sumN s.2.2.1.toNat (G i)∧s.2.1=m.2.1.getD i 0 - sumN s.2.2.1.toNat (G i)∧s.2.2.2.length=ord.length∧∀ b:Nat,b<ord.length→s.2.2.2.getD b 0=sumN i (fun a=>G a b)+if b<s.2.2.1.toNat then G i b else 0,fun s=>((ord.length:Int) - s.2.2.1).toNat,⟨by simp,by simp,by simp [sumN_zero],by simp [sumN_zero,c1],hgl,fun b hb=>?_⟩,?_⟩⟩
  ·exfalso
   have hb:(!(((Sh.getD i []).length:Int)==(ord.length:Int)))=true:=hb
   rw [hr] at hb
   simp at hb
  ·simp only [Int.toNat_zero,Nat.not_lt_zero,if_false,Int.add_zero]
   exact hgt b hb
  rintro ⟨al,left,k,gt⟩ ⟨k1,k2,e1,e2,hgl2,hgt2⟩
  simp only at k1 k2 e1 e2 hgl2 hgt2 ⊢
  subst e1;subst e2
  refine ⟨fun hk=>?_,fun hk=>?_⟩
  ·have hk:=of_decide_eq_true hk
   rw [hr] at hk
   obtain ⟨k,rfl⟩:=Int.eq_ofNat_of_zero_le k1
   have hkN:k<ord.length:=by omega
   have ev:=hget i k hiM hkN
   have hc:=hcap i k hiM hkN
   have hrb:=rowb i hiM k (by omega)
   have hcb:=colb k hkN i (by omega)
   have e:((k:Int)+1).toNat=k+1:=by omega
   have hgk:=hgt2 k hkN
   simp only [Int.toNat_natCast,Nat.lt_irrefl,if_false,Int.add_zero] at hgk
   simp only [Int.toNat_natCast] at hgt2 ⊢
   simp only [ev]
   simp only [amount,topN] at hmi hc hrb hcb hab
   refine ⟨⟨by omega,by rw [hr];exact hk⟩,fun _=>⟨by omega,by rw [c2l];omega⟩,fun _=>⟨by omega,by rw [c2r i hiM];omega⟩,fun hb=>?_,fun _=>⟨?_,⟨by omega,by omega⟩,?_,⟨by omega,by omega⟩,?_,by simp only [Z.in64];omega,?_,⟨by show (0:Int)≤(k:Int)+1;omega,by show (k:Int)+1≤_;omega,?_,?_,?_,fun b hb=>?_⟩,?_⟩⟩
   all_goals first | trivial | rfl | skip
   ·exfalso
    rw [c2 i k hiM hkN] at hb
    rw [decide_eq_false (by omega:¬ G i k<0),Bool.false_or] at hb
    by_cases hp:0<G i k
    ·rw [hop i k hp] at hb;simp at hb
    ·rw [decide_eq_false hp] at hb;simp at hb
   ·simp only [Z.in64];omega
   ·rw [hgk];simp only [Z.in64];omega
   ·rw [hall];simp only [Z.in64];omega
   ·show all+sumN k (G i)+G i k=all+sumN ((k:Int)+1).toNat (G i)
    rw [e,sumN_succ];omega
   ·show m.2.1.getD i 0 - sumN k (G i) - G i k=m.2.1.getD i 0 - sumN ((k:Int)+1).toNat (G i)
    rw [e,sumN_succ];omega
   ·rw [List.length_set];exact hgl2
   ·show (gt.set k (gt.getD k 0+G i k)).getD b 0=sumN i (fun a=>G a b)+if b<((k:Int)+1).toNat then G i b else 0
    rw [e,set_getD' gt k _ (by omega),hgk]
    have hb2:=hgt2 b hb
    by_cases e1:b=k
    ·subst e1
     rw [if_pos rfl,if_pos (by omega)]
    ·rw [if_neg e1,hb2]
     by_cases e2:b<k
     ·rw [if_pos e2,if_pos (by omega)]
     ·rw [if_neg e2,if_neg (by omega)]
   ·show ((ord.length:Int) - ((k:Int)+1)).toNat<((ord.length:Int) - (k:Int)).toNat
    omega
  ·have hk:=of_decide_eq_false hk
   rw [hr] at hk
   have hkk:k.toNat=ord.length:=by omega
   rw [hkk] at hgt2 ⊢
   have hrw:=hF.row i (by omega)
   rw [mN] at hrw
   refine ⟨fun hb=>?_,fun _=>⟨by simp only [Z.in64];omega,?_,⟨by show (0:Int)≤(i:Int)+1;omega,by show (i:Int)+1≤_;omega,?_,hgl2,fun b hb=>?_⟩,?_⟩⟩
   all_goals first | trivial | rfl | skip
   ·have:=of_decide_eq_true hb
    omega
   ·have e:((i:Int)+1).toNat=i+1:=by omega
    show all+sumN ord.length (G i)=sumN ((i:Int)+1).toNat _
    rw [e,sumN_succ,hall]
   ·have e:((i:Int)+1).toNat=i+1:=by omega
    show gt.getD b 0=sumN ((i:Int)+1).toNat _
    rw [e,sumN_succ,hgt2 b hb,if_pos hb]
   ·show ((sup.length:Int) - ((i:Int)+1)).toNat<((sup.length:Int) - (i:Int)).toNat
    omega
 have hi:=of_decide_eq_false hi
 rw [hlen] at hi
 have hin:i.toNat=sup.length:=by omega
 rw [hin] at hall hgt
 have hav:all=valF m G:=by
  rw [hall]
  simp only [valF,mM,mN]
 have hab:=allb sup.length (Nat.le_refl _)
 rw [←hall] at hab
 have askb:∀ k,k<ord.length→amount (m.1.getD k 0):=fun k hk=>W.asked _ (getD_mem m.1 0 k (by omega))
 have hasks:∀ k,k≤ord.length→0≤sumN k (fun j=>m.1.getD j 0)∧sumN k (fun j=>m.1.getD j 0)≤8*topN:=fun k hk=>sumb _ k (by omega) fun j hj=>askb j (by omega)
 refine ⟨fun s=>0≤s.2∧s.2≤(ord.length:Int)∧s.1=sumN s.2.toNat (fun j=>m.1.getD j 0),fun s=>((ord.length:Int) - s.2).toNat,⟨by simp,by simp,rfl⟩,?_⟩
 rintro ⟨asks,k⟩ ⟨k1,k2,e1⟩
 simp only at k1 k2 e1 ⊢
 subst e1
 refine ⟨fun hk=>?_,fun hk=>?_⟩
 ·have hk:=of_decide_eq_true hk
  obtain ⟨k,rfl⟩:=Int.eq_ofNat_of_zero_le k1
  have hkN:k<ord.length:=by omega
  have ha:=ask k hkN
  have hab2:=askb k hkN
  have hsb:=hasks k (by omega)
  have hcol:=hF.col k (by omega)
  rw [mM] at hcol
  have hgk:=hgt k hkN
  have e:((k:Int)+1).toNat=k+1:=by omega
  simp only [Int.toNat_natCast] at *
  simp only [←ha]
  simp only [amount,topN] at hab2 hsb
  refine ⟨⟨by omega,hk⟩,by simp only [Z.in64];omega,⟨by omega,by omega⟩,fun hb=>?_,fun _=>⟨by simp only [Z.in64];omega,?_,?_,⟨by show (0:Int)≤(k:Int)+1;omega,by show (k:Int)+1≤_;omega,?_⟩,?_⟩⟩
  all_goals first | trivial | rfl | skip
  ·have:=of_decide_eq_true hb
   rw [hgk] at this
   omega
  ·show _=sumN ((k:Int)+1).toNat _
   rw [e,sumN_succ]
  ·show ((ord.length:Int) - ((k:Int)+1)).toNat<((ord.length:Int) - (k:Int)).toNat
   omega
 have hk:=of_decide_eq_false hk
 have hkk:k.toNat=ord.length:=by omega
 rw [hkk]
 have hAS:(sumN ord.length fun j=>m.1.getD j 0)=askedS m:=by rw [askedS,mN]
 have htop:=top_most W
 rw [mN] at htop
 have hasb:=hasks ord.length (Nat.le_refl _)
 rw [hAS] at hasb ⊢
 have hlk:((order_Lack (sup,ord)).2.2=0∨(order_Lack (sup,ord)).2.2=4)∧(order_Lack (sup,ord)).2.1=(mostV (lackM m) (setsTo (2^ord.length))).2:=by
  rcases lack_spec h with ⟨l1,l2⟩ | ⟨l1,l2⟩
  ·have l1:mostV (lackM (worstM (sup,ord))) (setsTo (2^ord.length))=(0,0):=l1
   rw [l2,hm,l1];exact ⟨.inr rfl,rfl⟩
  ·rw [l2,hm];exact ⟨.inl rfl,rfl⟩
 have hsum:all+(order_Lack (sup,ord)).2.1=askedS m:=by
  rw [hlk.2,hav,hV,htop];omega
 have h27:((!((order_Lack (sup,ord)).2.2==0))&&(!((order_Lack (sup,ord)).2.2==4)))=false:=by
  rcases hlk.1 with e | e<;>rw [e]<;>rfl
 refine ⟨trivial,fun _=>?_,fun hb=>?_,fun _=>?_⟩
 ·rw [hsum]
  simp only [topN] at hasb
  simp only [Z.in64];omega
 ·exfalso
  rw [hsum,beq_self_eq_true] at hb
  have hb:((((!((order_Lack (sup,ord)).2.2==0))&&(!((order_Lack (sup,ord)).2.2==4)))||(!true)))=true:=hb
  rw [h27] at hb
  cases hb
 refine ⟨fun s=>0≤s∧s≤(sup.length:Int),fun s=>((sup.length:Int) - s).toNat,⟨by omega,by omega⟩,?_⟩
 rintro a ⟨a1,a2⟩
 refine ⟨fun ha=>?_,fun _=>⟨trivial,rfl⟩⟩
 have ha:=of_decide_eq_true ha
 rw [hlen] at ha
 refine ⟨fun s=>0≤s∧s≤(ord.length:Int),fun s=>((ord.length:Int) - s).toNat,⟨by omega,by omega⟩,?_⟩
 rintro b ⟨b1,b2⟩
 refine ⟨fun hbl=>?_,fun _=>⟨by simp only [Z.in64];omega,trivial,trivial,⟨by omega,by omega⟩,by show ((sup.length:Int) - (a+1)).toNat<((sup.length:Int) - a).toNat;omega⟩⟩
 have hbl:=of_decide_eq_true hbl
 refine ⟨by simp only [Z.in64];omega,fun s=>b<s∧s≤(ord.length:Int),fun s=>((ord.length:Int) - s).toNat,⟨by omega,by omega⟩,?_⟩
 rintro d ⟨d1,d2⟩
 refine ⟨fun hdl=>?_,fun _=>⟨by simp only [Z.in64];omega,trivial,trivial,⟨by omega,by omega⟩,by show ((ord.length:Int) - (b+1)).toNat<((ord.length:Int) - b).toNat;omega⟩⟩
 have hdl:=of_decide_eq_true hdl
 refine ⟨by simp only [Z.in64];omega,fun s=>a<s∧s≤(sup.length:Int),fun s=>((sup.length:Int) - s).toNat,⟨by omega,by omega⟩,?_⟩
 rintro f ⟨f1,f2⟩
 refine ⟨fun hfl=>?_,fun _=>⟨by simp only [Z.in64];omega,trivial,trivial,⟨by omega,by omega⟩,by show ((ord.length:Int) - (d+1)).toNat<((ord.length:Int) - d).toNat;omega⟩⟩
 have hfl:=of_decide_eq_true hfl
 rw [hlen] at hfl
 obtain ⟨a,rfl⟩:=Int.eq_ofNat_of_zero_le a1
 obtain ⟨b,rfl⟩:=Int.eq_ofNat_of_zero_le b1
 obtain ⟨d,rfl⟩:=Int.eq_ofNat_of_zero_le (by omega:0≤d)
 obtain ⟨f,rfl⟩:=Int.eq_ofNat_of_zero_le (by omega:0≤f)
 have v1:=hget a d (by omega) (by omega)
 have v2:=hget f b (by omega) (by omega)
 have w1:=c2 a b (by omega) (by omega)
 have w2:=c2 f d (by omega) (by omega)
 have r1:=hrow a (by omega)
 have r2:=hrow f (by omega)
 have q1:=c2r a (by omega)
 have q2:=c2r f (by omega)
 simp only [Int.toNat_natCast]
 simp only [v1,v2,w1,w2]
 refine ⟨⟨by omega,by omega⟩,⟨by omega,by rw [r1];omega⟩,fun _=>⟨by omega,by rw [c2l];omega⟩,fun _=>⟨by omega,by rw [q1];omega⟩,fun _=>⟨by omega,by omega⟩,fun _=>⟨by omega,by rw [r2];omega⟩,fun _=>⟨by omega,by rw [c2l];omega⟩,fun _=>⟨by omega,by rw [q2];omega⟩,fun hb=>?_,fun _=>⟨by simp only [Z.in64];omega,trivial,trivial,⟨by omega,by omega⟩,by show ((sup.length:Int) - ((f:Int)+1)).toNat<((sup.length:Int) - (f:Int)).toNat;omega⟩⟩
 exfalso
 simp only [Bool.and_eq_true,decide_eq_true_eq] at hb
 obtain ⟨⟨⟨h1,h2⟩,h3⟩,h4⟩:=hb
 rw [hG] at h1 h3
 exact share_first W (i:=a) (k:=b) (mm:=d) (j:=f) (by omega) (by omega) (by omega) (by omega) h2 h4 h1 h3
end Go.Ord
