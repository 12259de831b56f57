/-
  TopSold: the statement's condition.
-/
import Derived.Test.YtdhdklojcppfcaaTtL1
set_option linter.all false
set_option maxRecDepth 100000
set_option maxHeartbeats 4000000
set_option linter.unusedVariables false
namespace Go.Tt
open Go Go.Sx
theorem pow8 {k:Nat} (h:k<8):(1:Int)<=2^k∧(2:Int)^k<=128:=by
 match k,h with
 | 0,_=>decide
 | 1,_=>decide
 | 2,_=>decide
 | 3,_=>decide
 | 4,_=>decide
 | 5,_=>decide
 | 6,_=>decide
 | 7,_=>decide
 | n+8,h=>omega
theorem any_upto (p:Nat->Bool) (n:Nat):(List.range (n+1)).any p=((List.range n).any p||p n):=by
 rw [List.range_succ,List.any_append];simp
theorem hasL_len {p:Shade->Bool}:∀ (s:List Shade) (i:Int),(hasL p s i).length<=s.length
 | [],_=>Nat.le_refl _
 | a::s,i=>by
  have:=hasL_len (p:=p) s (i+1)
  rw [hasL]
  cases p a with
  | true=>rw [cond_true,List.length_cons,List.length_cons];omega
  | false=>rw [cond_false,List.length_cons];omega
theorem sumN_bd {T:Int} {f:Nat->Int}:∀ (n:Nat),(∀ i,i<n->f i<=T)->sumN n f<=n*T
 | 0,_=>by simp [sumN]
 | n+1,h=>by
  have h1:=sumN_bd n fun i hi=>h i (by omega)
  have h2:=h n (by omega)
  rw [zaT]
  have:((n+1:Nat):Int)*T=(n:Int)*T+T:=by rw [Int.natCast_add,Int.add_mul];simp
  omega
theorem sum8 {f:Nat->Int} {n:Nat} (hn:n<=8) (h:∀ i,i<n->0<=f i∧f i<=1048576):0<=sumN n f∧sumN n f<=8388608:=by
 refine ⟨zbJ fun i hi=>(h i hi).1,?_⟩
 have:=sumN_bd (T:=1048576) n fun i hi=>(h i hi).2
 have:(n:Int)*1048576<=8388608:=by omega
 omega
theorem fdiv_nn {X n:Int} (h:0<=X):0<=Int.fdiv X (2^n.toNat):=by
 rw [Int.fdiv_eq_ediv_of_nonneg _ (Int.le_of_lt (Int.pow_pos (by decide)))]
 exact Int.ediv_nonneg h (Int.le_of_lt (Int.pow_pos (by decide)))
theorem touch_cells {c:List Tint} {l:List Leads} {s:List Shade} {od:List Order} {sup:List Supply} {X:Int} (hsl:sup.length=l.length)
  (hs:∀ a,a<l.length->SupIs c s (l.getD a ((0,0),(0,0),0,[],(0,0),(0,0),0)) (sup.getD a (0,(0,0),0,0))) (hod:∀ o∈od,ordOk s.length o) {a:Nat} (ha:a<l.length) :
  touchB ((worstM (sup,od)).2.2.getD a 0) X=(List.range od.length).any fun k=>hasB X (k:Nat)&&sureB c (l.getD a ((0,0),(0,0),0,[],(0,0),(0,0),0)) (s.getD (od.getD k (0,0,0,0)).1.toNat ((0,0),(0,0),0,0)):=by
 obtain ⟨r,e1,e2,e3⟩:=sold_can hsl hs hod ha
 rw [e1,touch_any,e2]
 refine bool_ext ?_
 simp only [List.any_eq_true,List.mem_range,Bool.and_eq_true]
 constructor
 ·rintro ⟨k,hk,h1,h2⟩;exact ⟨k,hk,h1,by rw [<-e3 k hk];exact h2⟩
 ·rintro ⟨k,hk,h1,h2⟩;exact ⟨k,hk,h1,by rw [e3 k hk];exact h2⟩
theorem v6 (x:SoldIn) (_:k6.pre x):V6 x:=by
 obtain ⟨c,l,s,od⟩:=x
 refine ⟨fun _=>⟨trivial,rfl⟩,fun hg=>?_⟩
 rw [Bool.or_eq_false_iff,Bool.or_eq_false_iff] at hg
 have hl8:l.length<=8:=by have:¬ (8:Int)<(l.length:Int):=of_decide_eq_false hg.1.1;omega
 have hs8:s.length<=8:=by have:¬ (8:Int)<(s.length:Int):=of_decide_eq_false hg.1.2;omega
 have ho8:od.length<=8:=by have:¬ (8:Int)<(od.length:Int):=of_decide_eq_false hg.2;omega
 clear hg
 refine ⟨fun t=>∃ i:Nat,t.1=(i:Int)∧i<=l.length∧Grid t.2.2.1∧t.2.2.2.length=i∧(∀ a,a<i->SupIs c s (l.getD a ((0,0),(0,0),0,[],(0,0),(0,0),0)) (t.2.2.2.getD a (0,(0,0),0,0))) ∧
   ∀ a,a<i->∀ k,k<s.length->cell t.2.2.1 a k=sureB c (l.getD a ((0,0),(0,0),0,[],(0,0),(0,0),0)) (s.getD k ((0,0),(0,0),0,0)),
  fun t=>((l.length:Int) - t.1).toNat,⟨0,rfl,by omega,grid0,rfl,fun a h=>by omega,fun a h=>by omega⟩,?_⟩
 rintro ⟨i',junk,T,sup⟩ ⟨i,ei,hi,hG,hsl,hS,hC⟩
 simp only at ei hG hsl hS hC
 subst ei
 refine ⟨fun hlt=>?_,fun hlt=>?_⟩
 ·have hlt:=of_decide_eq_true hlt
  have hlt:i<l.length:=by have:(i:Int)<(l.length:Int):=hlt;omega
  obtain ⟨ld,hld⟩:∃ ld,ld=l.getD i ((0,0),(0,0),0,[],(0,0),(0,0),0):=⟨_,rfl⟩
  have eld:ldS (c,l,s,od) (i:Int)=ld:=hld.symm
  refine ⟨⟨by omega,by show (i:Int)<(l.length:Int);omega⟩,by show s.length<=1000;omega,⟨by omega,by show (i:Int)<(l.length:Int);omega⟩,trivial,fun _=>⟨trivial,rfl⟩,fun he=>?_⟩
  simp only [eld] at he ⊢
  have he2:(hasV c s ld).2=0:=by
   have:=(Bool.or_eq_false_iff.1 he).1
   exact eq_of_beq (not_iff.2.1 this)
  have K:=known_of he2
  have eH:(zaU (c,s,ld)).1=hasL (sureB c ld) s 0:=K.has
  have eB:(zar (c,ld)).1=blackB (c,ld):=K.black
  obtain ⟨H,hH⟩:∃ H,H=hasL (sureB c ld) s 0:=⟨_,rfl⟩
  have hmem:∀ v,v∈H↔∃ k,k<s.length∧v=(k:Int)∧sureB c ld (s.getD k ((0,0),(0,0),0,0))=true:=fun v=>by
   rw [hH,hasL_mem];simp only [Int.zero_add]
  have hHl:H.length<=8:=by rw [hH];exact Nat.le_trans (hasL_len s 0) hs8
  rw [<-hH] at eH
  simp only [eH,eB]
  clear he
  refine ⟨fun p=>∃ t:Nat,p.2=(t:Int)∧t<=H.length∧smallSet p.1∧∀ k:Nat,hasB p.1 (k:Nat)=(H.take t).any fun v=>v==(k:Int),fun p=>((H.length:Int) - p.2).toNat,⟨0,rfl,by omega,⟨by decide,by decide⟩,fun k=>by simp [hasB]⟩,?_⟩
  rintro ⟨set,t'⟩ ⟨t,et,ht,hsm,hbit⟩
  simp only at et hsm hbit
  subst et
  refine ⟨fun hlt2=>?_,fun hlt2=>?_⟩
  ·have hlt2:(t:Int)<(H.length:Int):=of_decide_eq_true hlt2
   have hlt2:t<H.length:=by omega
   obtain ⟨k0,hk0,ek0,_⟩:=(hmem (H.getD t 0)).1 (zaS H 0 t hlt2)
   have hp:=pow8 (k:=k0) (by omega)
   simp only [Int.toNat_natCast,ek0]
   refine ⟨⟨by omega,by omega⟩,fun hb=>?_,fun _=>⟨⟨⟨by omega,by omega⟩,by rw [Int.one_mul];simp only [Z.in64];omega⟩,⟨hsm.1,by omega⟩,by simp only [Z.in64];omega,by first | rfl | trivial,by first | rfl | trivial,by first | rfl | trivial,by first | rfl | trivial,by first | rfl | trivial,⟨t+1,rfl,hlt2,?_,?_⟩,?_⟩⟩
   ·exfalso
    rw [Bool.or_eq_true] at hb
    rcases hb with hb | hb
    ·have:=of_decide_eq_true hb;omega
    ·have:(s.length:Int)<=(k0:Int):=of_decide_eq_true hb;omega
   ·exact or_small hsm (by omega)
   ·intro k
    show hasB ((set.toNat ||| (1*2^((k0:Nat):Int).toNat:Int).toNat:Nat):Int) (k:Nat)=_
    rw [has_or,hbit k]
    have e1:H.take (t+1)=H.take t++[H.getD t 0]:=by
     rw [List.take_succ_eq_append_getElem hlt2];simp [List.getD,hlt2]
    rw [e1,List.any_append,ek0]
    simp only [List.any_cons,List.any_nil,Bool.or_false]
    congr 1
    refine bool_ext ?_
    rw [decide_eq_true_eq,beq_iff_eq];omega
   ·show ((H.length:Int) - ((t:Int)+1)).toNat<((H.length:Int) - (t:Int)).toNat
    omega
  have hlt2:¬ (t:Int)<(H.length:Int):=of_decide_eq_false hlt2
  have:t=H.length:=by omega
  subst this
  rw [List.take_length] at hbit
  have hSup:∀ y:Supply,y=(set,(ld.2.2.2.2.2.2,ld.2.2.2.2.2.2),0,0)->SupIs c s ld y:=by
   rintro y rfl
   refine ⟨hsm,fun k=>?_,rfl,K.many⟩
   rw [hbit k]
   refine bool_ext ?_
   rw [List.any_eq_true,Bool.and_eq_true,decide_eq_true_eq]
   constructor
   ·rintro ⟨v,hv,e⟩
    have e:=eq_of_beq e
    obtain ⟨k1,h1,h2,h3⟩:=(hmem v).1 hv
    have:k1=k:=by omega
    subst this
    exact ⟨h1,h3⟩
   ·rintro ⟨h1,h2⟩
    exact ⟨(k:Int),(hmem _).2 ⟨k,h1,rfl,h2⟩,by simp⟩
  refine ⟨fun p=>∃ k:Nat,p.1=(k:Int)∧k<=s.length∧Grid p.2∧(∀ a,a<i->∀ b,b<s.length->cell p.2 a b=sureB c (l.getD a ((0,0),(0,0),0,[],(0,0),(0,0),0)) (s.getD b ((0,0),(0,0),0,0)))∧∀ b,b<k->cell p.2 i b=sureB c ld (s.getD b ((0,0),(0,0),0,0)),
   fun p=>((s.length:Int) - p.1).toNat,⟨0,rfl,by omega,hG,hC,fun b h=>by omega⟩,?_⟩
  rintro ⟨k',T2⟩ ⟨k,ek,hk,hG2,hC2,hC3⟩
  simp only at ek hG2 hC2 hC3
  subst ek
  refine ⟨fun hlt3=>?_,fun hlt3=>?_⟩
  ·have hlt3:(k:Int)<(s.length:Int):=of_decide_eq_true hlt3
   have hks:k<s.length:=by omega
   have hii:(0:Int)<=(i:Int)∧(i:Int)<(l.length:Int):=⟨by omega,by omega⟩
   have hkk:(0:Int)<=(k:Int)∧(k:Int)<(s.length:Int):=⟨by omega,by omega⟩
   obtain ⟨g1,g2⟩:=grid_set hG2 (i:=i) (k:=k) (by omega) (by omega) (sureB c ld (s.getD k ((0,0),(0,0),0,0)))
   refine ⟨hkk,trivial,fun _=>hii,fun _=>hkk,fun _=>trivial,fun _=>hii,fun _=>hkk,fun _=>trivial,⟨by omega,by omega⟩,⟨by omega,by omega⟩,by simp only [Z.in64];omega,by first | rfl | trivial,by first | rfl | trivial,by first | rfl | trivial,by first | rfl | trivial,⟨k+1,rfl,hks,g1,fun a ha b hb=>?_,fun b hb=>?_⟩,?_⟩
   ·refine (g2 a b).trans ?_
    rw [if_neg (fun hh=>by omega)];exact hC2 a ha b hb
   ·refine (g2 i b).trans ?_
    by_cases e:b=k
    ·subst e;rw [if_pos ⟨rfl,rfl⟩]
    ·rw [if_neg (fun hh=>e hh.2)];exact hC3 b (by omega)
   ·show ((s.length:Int) - ((k:Int)+1)).toNat<((s.length:Int) - (k:Int)).toNat
    omega
  have hlt3:¬ (k:Int)<(s.length:Int):=of_decide_eq_false hlt3
  have:k=s.length:=by omega
  subst this
  have hii:(0:Int)<=(i:Int)∧(i:Int)<(l.length:Int):=⟨by omega,by omega⟩
  have getN:∀ (y:Supply) (a:Nat),(sup++[y]).getD a (0,(0,0),0,0)=if a<i then sup.getD a (0,(0,0),0,0) else if a=i then y else (0,(0,0),0,0):=fun y a=>by
   by_cases h1:a<i
   ·rw [if_pos h1];simp [List.getD,List.getElem?_append,hsl,h1]
   ·rw [if_neg h1]
    by_cases h2:a=i
    ·subst h2;rw [if_pos rfl];simp [List.getD,List.getElem?_append,hsl]
    ·rw [if_neg h2]
     have:(sup++[y]).length<=a:=by rw [List.length_append];simp;omega
     simp [List.getD,List.getElem?_eq_none this]
  refine ⟨hii,hii,zdO (by decide) (by decide) (by rw [List.length_append,hsl];simp;omega),by simp only [Z.in64];omega,by first | rfl | trivial,⟨i+1,rfl,hlt,hG2,by show (sup++_).length=_;rw [List.length_append,hsl];rfl,fun a ha=>?_,fun a ha b hb=>?_⟩,?_⟩
  ·show SupIs c s (l.getD a _) ((sup++[(set,(ld.2.2.2.2.2.2,ld.2.2.2.2.2.2),0,0)]).getD a (0,(0,0),0,0))
   rw [getN]
   by_cases h1:a<i
   ·rw [if_pos h1];exact hS a h1
   ·have:a=i:=by omega
    subst this
    rw [if_neg h1,if_pos rfl,<-hld]
    exact hSup _ rfl
  ·show cell T2 a b=_
   by_cases h1:a<i
   ·exact hC2 a h1 b hb
   ·have:a=i:=by omega
    subst this
    rw [<-hld];exact hC3 b hb
  ·show ((l.length:Int) - ((i:Int)+1)).toNat<((l.length:Int) - (i:Int)).toNat
   omega
 have hlt:¬ (i:Int)<(l.length:Int):=of_decide_eq_false hlt
 have:i=l.length:=by omega
 subst this
 refine ⟨fun p=>∃ k:Nat,p.1=(k:Int)∧k<=od.length∧p.2.2=od.take k∧∀ o∈od.take k,ordOk s.length o,fun p=>((od.length:Int) - p.1).toNat,⟨0,rfl,by omega,rfl,fun o ho=>by cases ho⟩,?_⟩
 rintro ⟨k',junk2,ol⟩ ⟨k,ek,hk,eo,hod⟩
 simp only at ek eo
 subst ek;subst eo
 refine ⟨fun hlt3=>?_,fun hlt3=>?_⟩
 ·have hlt3:(k:Int)<(od.length:Int):=of_decide_eq_true hlt3
  have hks:k<od.length:=by omega
  simp only [Int.toNat_natCast]
  obtain ⟨o,ho⟩:∃ o,o=od.getD k (0,0,0,0):=⟨_,rfl⟩
  simp only [<-ho]
  refine ⟨⟨by omega,hlt3⟩,fun _=>⟨trivial,rfl⟩,fun hb=>?_⟩
  simp only [Bool.or_eq_false_iff,decide_eq_false_iff_not,Int.not_lt,Int.not_le] at hb
  obtain ⟨⟨⟨⟨⟨⟨⟨b1,b2⟩,b3⟩,b4⟩,b5⟩,b6⟩,b7⟩,b8⟩:=hb
  have e1:od.take (k+1)=od.take k++[o]:=by
   rw [List.take_succ_eq_append_getElem hks,ho];simp [List.getD,hks]
  have hoo:ordOk s.length o:=⟨zdy.2 ⟨⟨b1,by omega⟩,⟨b5,b6⟩,⟨b3,b4⟩,b7,b8⟩,b2⟩
  refine ⟨zdO (by decide) (by decide) (by rw [List.length_append,List.length_take];simp;omega),by simp only [Z.in64];omega,by first | rfl | trivial,by first | rfl | trivial,⟨k+1,rfl,hks,e1.symm,fun o' h=>?_⟩,?_⟩
  ·rw [e1] at h
   rcases List.mem_append.1 h with h | h
   ·exact hod o' h
   ·rw [List.mem_singleton.1 h];exact hoo
  ·show ((od.length:Int) - ((k:Int)+1)).toNat<((od.length:Int) - (k:Int)).toNat
   omega
 have hlt3:¬ (k:Int)<(od.length:Int):=of_decide_eq_false hlt3
 have:k=od.length:=by omega
 subst this
 rw [List.take_length] at hod ⊢
 have hsale:=sold_sale hl8 ho8 hsl hS hod
 have hLk:=lack_is hsale
 have eS:zak (sup,od)=(shareV (worstM (sup,od)),0):=by rw [zak,hsale];rfl
 have hm2:(worstM (sup,od)).2.1.length=l.length:=by simp [worstM,marketV,hsl]
 have hm1:(worstM (sup,od)).1.length=od.length:=by simp [worstM,marketV]
 obtain ⟨SV,hSV⟩:∃ SV,SV=shareV (worstM (sup,od)):=⟨_,rfl⟩
 have hSl:SV.length=l.length:=by rw [hSV,shareV_len,hm2]
 have hSr:∀ i,i<l.length->(SV.getD i []).length=od.length:=fun i hi=>by rw [hSV,shareV_row (by omega),hm1]
 obtain ⟨⟨X,n,f⟩,hr⟩:∃ r,r=zaf (sup,od):=⟨_,rfl⟩
 obtain ⟨h1,h2,h3,h4⟩:=hLk
 rw [<-hr] at h1 h2 h3 h4
 rw [<-hSV] at eS
 simp only at h1 h2 h3 h4
 have hshade:∀ k,k<od.length->0<=(od.getD k (0,0,0,0)).1∧(od.getD k (0,0,0,0)).1<(s.length:Int):=fun k hk=>by
  have h:=hod _ (zaS od (0,0,0,0) k hk)
  exact ⟨(zdy.1 h.1).1.1,h.2⟩
 have hmany:∀ k,k<od.length->0<=(od.getD k (0,0,0,0)).2.1∧(od.getD k (0,0,0,0)).2.1<=1048576:=fun k hk=>(zdy.1 (hod _ (zaS od (0,0,0,0) k hk)).1).2.1
 have hcell:∀ i,i<l.length->∀ k,k<od.length->(T.getD i row0).getD (od.getD k (0,0,0,0)).1.toNat false=sureB c (l.getD i ((0,0),(0,0),0,[],(0,0),(0,0),0)) (s.getD (od.getD k (0,0,0,0)).1.toNat ((0,0),(0,0),0,0)):=fun i hi k hk=>hC i hi _ (by have:=hshade k hk;omega)
 have hbit:∀ k:Nat,((((Int.toNat (Int.fdiv X (2^(Int.toNat (k:Int))))) &&& (Int.toNat (1)):Nat):Int)==1)=hasB X (k:Nat):=fun k=>has_div h2 (by omega)
 dsimp only
 simp only [eS,<-hr]
 refine ⟨trivial,trivial,fun _=>⟨⟨by omega,by omega⟩,?_⟩,fun hb=>?_,fun _=>?_⟩
 ·rw [Int.one_mul,Int.toNat_natCast,pow_nat]
  have hq:2^od.length<=2^8:=Nat.pow_le_pow_right (by decide) ho8
  generalize 2^od.length=q at hq
  simp only [Z.in64];omega
 ·exfalso
  rw [Bool.or_eq_true,Bool.or_eq_true,Bool.or_eq_true,Bool.or_eq_true] at hb
  rcases hb with (((hb | hb) | hb) | hb) | hb
  ·cases hb
  ·rw [hSl] at hb;simp at hb
  ·rcases h1 with ⟨_,rfl⟩ | ⟨_,rfl⟩<;>cases hb
  ·have:=of_decide_eq_true hb;omega
  ·have:=of_decide_eq_true hb
   rw [Int.one_mul,Int.toNat_natCast] at this
   omega
 refine ⟨fun t=>∃ i:Nat,t=(i:Int)∧i<=l.length,fun t=>((l.length:Int) - t).toNat,⟨0,rfl,by omega⟩,?_⟩
 rintro t ⟨i,rfl,hi⟩
 refine ⟨fun hlt=>?_,fun hlt=>?_⟩
 ·have hlt:=of_decide_eq_true hlt
  have hil:i<l.length:=by omega
  simp only [Int.toNat_natCast]
  refine ⟨⟨by omega,hlt⟩,fun hb=>?_,fun _=>?_⟩
  ·rw [hSr i hil] at hb;simp at hb
  refine ⟨fun t=>∃ k:Nat,t=(k:Int)∧k<=od.length,fun t=>((od.length:Int) - t).toNat,⟨0,rfl,by omega⟩,?_⟩
  rintro t ⟨k,rfl,hk⟩
  refine ⟨fun hlt2=>?_,fun hlt2=>?_⟩
  ·have hlt2:=of_decide_eq_true hlt2
   have hko:k<od.length:=by omega
   have hsh:=hshade k hko
   simp only [Int.toNat_natCast]
   refine ⟨⟨by omega,hlt⟩,⟨by omega,by rw [hSr i hil];exact hlt2⟩,fun _=>⟨by omega,hlt2⟩,fun _=>⟨by omega,by omega⟩,fun _=>⟨hsh.1,by omega⟩,fun hb=>?_,fun _=>⟨by simp only [Z.in64];omega,by first | rfl | trivial,by first | rfl | trivial,by first | rfl | trivial,by first | rfl | trivial,⟨k+1,rfl,hko⟩,by omega⟩⟩
   exfalso
   rw [Bool.and_eq_true] at hb
   have hpos:=of_decide_eq_true hb.1
   have hcl:=not_iff.1.1 hb.2
   rw [hcell i hil k hko] at hcl
   rw [hSV] at hpos
   have hh:=share_pos (by omega) hpos
   obtain ⟨r,g1,g2,g3⟩:=sold_can hsl hS hod hil
   rw [g1,has_setOf,g3 k hko,hcl] at hh
   cases hh
  ·exact ⟨by simp only [Z.in64];omega,by first | rfl | trivial,by first | rfl | trivial,by first | rfl | trivial,by first | rfl | trivial,⟨i+1,rfl,hil⟩,by omega⟩
 clear hlt
 obtain ⟨tch,htch⟩:∃ tch:Nat->Bool,tch=fun a=>(List.range od.length).any fun k=>hasB X (k:Nat)&&sureB c (l.getD a ((0,0),(0,0),0,[],(0,0),(0,0),0)) (s.getD (od.getD k (0,0,0,0)).1.toNat ((0,0),(0,0),0,0)):=⟨_,rfl⟩
 have hmn:∀ a,a<l.length->0<=cond (tch a) ((l.getD a ((0,0),(0,0),0,[],(0,0),(0,0),0)).2.2.2.2.2.2) 0∧cond (tch a) ((l.getD a ((0,0),(0,0),0,[],(0,0),(0,0),0)).2.2.2.2.2.2) 0<=1048576:=fun a ha=>by
  have:=(hS a ha).many
  cases tch a with
  | true=>exact this
  | false=>exact ⟨Int.le_refl 0,by show (0:Int)<=1048576;omega⟩
 refine ⟨fun p=>∃ i:Nat,p.2=(i:Int)∧i<=l.length∧p.1=sumN i fun a=>cond (tch a) ((l.getD a ((0,0),(0,0),0,[],(0,0),(0,0),0)).2.2.2.2.2.2) 0,fun p=>((l.length:Int) - p.2).toNat,⟨0,rfl,by omega,rfl⟩,?_⟩
 rintro ⟨there,i2⟩ ⟨i,ei,hi,eth⟩
 simp only at ei eth
 subst ei;subst eth
 have hthere:=sum8 (n:=i) (by omega) fun a ha=>hmn a (by omega)
 refine ⟨fun hlt=>?_,fun hlt=>?_⟩
 ·have hlt:=of_decide_eq_true hlt
  have hil:i<l.length:=by have:(i:Int)<(l.length:Int):=hlt;omega
  refine ⟨fun q=>∃ k:Nat,q.2=(k:Int)∧k<=od.length∧q.1=(List.range k).any fun k=>hasB X (k:Nat)&&sureB c (l.getD i ((0,0),(0,0),0,[],(0,0),(0,0),0)) (s.getD (od.getD k (0,0,0,0)).1.toNat ((0,0),(0,0),0,0)),fun q=>((od.length:Int) - q.2).toNat,⟨0,rfl,by omega,rfl⟩,?_⟩
  rintro ⟨some,k2⟩ ⟨k,ek,hk,esm⟩
  simp only at ek esm
  subst ek;subst esm
  refine ⟨fun hlt2=>?_,fun hlt2=>?_⟩
  ·have hlt2:(k:Int)<(od.length:Int):=of_decide_eq_true hlt2
   have hko:k<od.length:=by omega
   have hsh:=hshade k hko
   simp only [hbit]
   simp only [Int.toNat_natCast]
   refine ⟨fun _=>⟨by omega,by omega⟩,fun _=>⟨fdiv_nn (n:=(k:Int)) h2,by omega⟩,fun _=>⟨by omega,hlt2⟩,fun _=>⟨by omega,by omega⟩,fun _=>⟨hsh.1,by omega⟩,by simp only [Z.in64];omega,by first | rfl | trivial,by first | rfl | trivial,by first | rfl | trivial,by first | rfl | trivial,⟨k+1,rfl,hko,?_⟩,?_⟩
   ·rw [any_upto,hcell i hil k hko]
   ·show ((od.length:Int) - ((k:Int)+1)).toNat<((od.length:Int) - (k:Int)).toNat
    omega
  have hlt2:¬ (k:Int)<(od.length:Int):=of_decide_eq_false hlt2
  have:k=od.length:=by omega
  subst this
  have et:((List.range od.length).any fun k=>hasB X (k:Nat)&&sureB c (l.getD i ((0,0),(0,0),0,[],(0,0),(0,0),0)) (s.getD (od.getD k (0,0,0,0)).1.toNat ((0,0),(0,0),0,0)))=tch i:=by rw [htch]
  simp only [et]
  have hm:=(hS i hil).many
  have meas:((l.length:Int) - ((i:Int)+1)).toNat<((l.length:Int) - (i:Int)).toNat:=by omega
  simp only [Int.toNat_natCast]
  simp only [topN] at hm
  refine ⟨fun hb=>⟨⟨by omega,by omega⟩,by simp only [Z.in64];omega,by simp only [Z.in64];omega,by first | rfl | trivial,by first | rfl | trivial,by first | rfl | trivial,by first | rfl | trivial,⟨i+1,rfl,hil,?_⟩,meas⟩,fun hb=>⟨by simp only [Z.in64];omega,by first | rfl | trivial,by first | rfl | trivial,by first | rfl | trivial,by first | rfl | trivial,⟨i+1,rfl,hil,?_⟩,meas⟩⟩
  ·rw [zaT,hb,cond_true]
  ·rw [zaT,hb,cond_false,Int.add_zero]
 have hlt:¬ (i:Int)<(l.length:Int):=of_decide_eq_false hlt
 have:i=l.length:=by omega
 subst this
 have hasked:∀ k,k<od.length->0<=cond (hasB X (k:Nat)) (od.getD k (0,0,0,0)).2.1 0∧cond (hasB X (k:Nat)) (od.getD k (0,0,0,0)).2.1 0<=1048576:=fun k hk=>by
  have:=hmany k hk
  cases hasB X (k:Nat) with
  | true=>exact this
  | false=>exact ⟨Int.le_refl 0,by show (0:Int)<=1048576;omega⟩
 refine ⟨fun p=>∃ k:Nat,p.2=(k:Int)∧k<=od.length∧p.1=sumN k fun k=>cond (hasB X (k:Nat)) (od.getD k (0,0,0,0)).2.1 0,fun p=>((od.length:Int) - p.2).toNat,⟨0,rfl,by omega,rfl⟩,?_⟩
 rintro ⟨asked,k2⟩ ⟨k,ek,hk,eas⟩
 simp only at ek eas
 subst ek;subst eas
 have hask:=sum8 (n:=k) (by omega) fun a ha=>hasked a (by omega)
 refine ⟨fun hlt2=>?_,fun hlt2=>?_⟩
 ·have hlt2:(k:Int)<(od.length:Int):=of_decide_eq_true hlt2
  have hko:k<od.length:=by omega
  have hm:=hmany k hko
  have meas:((od.length:Int) - ((k:Int)+1)).toNat<((od.length:Int) - (k:Int)).toNat:=by omega
  simp only [hbit]
  simp only [Int.toNat_natCast]
  refine ⟨⟨by omega,by omega⟩,⟨fdiv_nn (n:=(k:Int)) h2,by omega⟩,fun hb=>⟨⟨by omega,hlt2⟩,by simp only [Z.in64];omega,by simp only [Z.in64];omega,by first | rfl | trivial,by first | rfl | trivial,by first | rfl | trivial,by first | rfl | trivial,⟨k+1,rfl,hko,?_⟩,meas⟩,fun hb=>⟨by simp only [Z.in64];omega,by first | rfl | trivial,by first | rfl | trivial,by first | rfl | trivial,by first | rfl | trivial,⟨k+1,rfl,hko,?_⟩,meas⟩⟩
  ·rw [zaT,hb,cond_true]
  ·rw [zaT,hb,cond_false,Int.add_zero]
 have hlt2:¬ (k:Int)<(od.length:Int):=of_decide_eq_false hlt2
 have:k=od.length:=by omega
 subst this
 have e1:(sumN od.length fun k=>cond (hasB X (k:Nat)) (od.getD k (0,0,0,0)).2.1 0) - (sumN l.length fun a=>cond (tch a) ((l.getD a ((0,0),(0,0),0,[],(0,0),(0,0),0)).2.2.2.2.2.2) 0)=n:=by
  rw [<-h4,lackM_sum,hm1,hm2]
  congr 1
  ·refine zcL fun k hk=>?_
   congr 1
   simp [worstM,marketV,List.getD,hk]
  ·refine zcL fun a ha=>?_
   rw [touch_cells hsl hS hod ha,htch]
   congr 1
   have ha2:a<sup.length:=by omega
   have e:(worstM (sup,od)).2.1.getD a 0=worstMany (sup.getD a (0,(0,0),0,0)):=by simp [worstM,marketV,List.getD,ha2]
   rw [e,worstMany,(hS a ha).rest]
 have e2:(decide (0<n)==(f==0))=true:=by
  rcases h1 with ⟨g1,rfl⟩ | ⟨rfl,rfl⟩
  ·rw [decide_eq_true g1];rfl
  ·rfl
 rw [e1]
 refine ⟨by rw [<-e1];simp only [Z.in64];omega,fun _=>trivial,?_⟩
 have e3:(n==n)=true:=beq_self_eq_true n
 rw [e2,e3];rfl
end Go.Tt
