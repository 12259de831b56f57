/-
  Chapter 12: rules can be entered just if a truth fits them; bounds are the ends of truths. Plain Lean.
-/
import Derived.Test.YtdhdklojcppfcaaTtZP5
import Derived.Test.YtdhdklojcppfcaaProg
set_option linter.all false
set_option maxRecDepth 100000
open Bool renaming and_eq_true->yac,cond_eq_ite->ybe
open Int renaming le_refl->ydB,le_trans->yaV,lt_of_le_of_lt->yek,pow_succ->yej,toNat->yby,toNat_natCast->ydt,toNat_zero->yeh
open List renaming ext_getElem->ydT,getD_cons_succ->yef,getD_eq_getElem?_getD->ybd,getElem?_eq_none->ybv,getElem?_set_ne->ybY,getElem?_set_self->yei,length_nil->yec,length_set->ybV,length_take->ybo,mem_append->yas,mem_cons->yaq,mem_cons_of_mem->yal,mem_cons_self->yam,mem_map_of_mem->ycY,mem_of_mem_take->ydH,mem_singleton->yat,not_mem_nil->ycN,range->yaf,replicate->yaa
open Nat renaming le_refl->yag,lt_of_succ_lt_succ->yeg,lt_or_ge->ycv,pow_le_pow_right->ydx,succ_lt_succ->yee,succ_pos->yed,zero_add->ybH
open Option renaming getD_some->ydM
open Prod.mk renaming injEq->ybb
open Go.Proofs.Try
namespace Go.Fade
open Go Go.Sx
def Sol (L:List Rule) (t:Nat->Int):Prop:=∀ r∈L,t r.1.toNat - t r.2.1.toNat<=r.2.2
def In27 (r:Rule):Prop:=(0<=r.1/\r.1<27)/\0<=r.2.1/\r.2.1<27
def Abv (t:Nat->Int) (b:Bds):Prop:=∀ i k,i<27->k<27->t i - t k<=gt b i k
theorem gt_putR {b:Bds} {r:Rule} {i k:Nat} (hi:i<27) (hk:k<27):gt (putR b r) i k=if gt b r.1.toNat r.2.1.toNat<=r.2.2 then gt b i k else newAt b r.1.toNat r.2.1.toNat r.2.2 i k:=by
 simp only [putR,ybe,decide_eq_true_eq]
 split
 ·rfl
 ·exact zfV _ hi hk
theorem zp {b:Bds} {r:Rule}:okR b r=true↔0<=gt b r.2.1.toNat r.1.toNat+r.2.2:=by
 simp only [okR,Bool.not_eq_true',decide_eq_false_iff_not]
 omega
theorem sound:∀ {L:List Rule} {b:Bds} {t:Nat->Int},(∀ r∈L,In27 r)->Sol L t->Abv t b->∃ b',enterL b L=some b'/\Abv t b'
 | [],b,t,_,_,h=>⟨b,rfl,h⟩
 | r::l,b,t,hin,hs,h=>by
  obtain ⟨h1,h2⟩:=hin r yam
  have hr:=hs r yam
  have ha:r.1.toNat<27:=by omega
  have hc:r.2.1.toNat<27:=by omega
  have hca:=h _ _ hc ha
  have ok:okR b r=true:=zp.2 (by omega)
  have hput:Abv t (putR b r):=by
   intro i k hi hk
   rw [gt_putR hi hk]
   have hik:=h i k hi hk
   split
   ·exact hik
   ·unfold newAt
    have h3:=h i _ hi ha
    have h4:=h _ k hc hk
    cases decide (gt b i r.1.toNat<free)&&decide (gt b r.2.1.toNat k<free) with
    | false=>exact hik
    | true=>simp only [cond_true];omega
  obtain ⟨b',h5,h6⟩:=sound (L:=l) (fun r hr=>hin r (yal _ hr)) (fun r hr=>hs r (yal _ hr)) hput
  exact ⟨b',by rw [enterL,ok];exact h5,h6⟩
theorem zlZ (b:Bds) (r:Rule) {i k:Nat} (hi:i<27) (hk:k<27):gt (putR b r) i k<=gt b i k:=by
 rw [gt_putR hi hk]
 split
 ·exact ydB _
 ·unfold newAt
  cases decide (gt b i r.1.toNat<free)&&decide (gt b r.2.1.toNat k<free) with
  | false=>exact ydB _
  | true=>simp only [cond_true];omega
theorem ziS:∀ {L:List Rule} {b b':Bds},enterL b L=some b'->∀ i k,i<27->k<27->gt b' i k<=gt b i k
 | [],b,b',h,_,_,_,_=>by cases h;exact ydB _
 | r::l,b,b',h,i,k,hi,hk=>by
  rw [enterL,ybe] at h
  split at h
  ·exact yaV (ziS h i k hi hk) (zlZ b r hi hk)
  ·cases h
theorem zfw:∀ {L:List Rule} {b b':Bds},(∀ i,i<27->gt b i i<=0)->(∀ r∈L,In27 r)->enterL b L=some b'->∀ r∈L,gt b' r.1.toNat r.2.1.toNat<=r.2.2
 | [],_,_,_,_,_,r,hr=>by cases hr
 | r::l,b,b',hd,hin,he,r',hr'=>by
  rw [enterL,ybe] at he
  split at he
  ·obtain ⟨h1,h2⟩:=hin r yam
   have ha:r.1.toNat<27:=by omega
   have hc:r.2.1.toNat<27:=by omega
   have hd':∀ i,i<27->gt (putR b r) i i<=0:=fun i hi=>yaV (zlZ b r hi hi) (hd i hi)
   rcases yaq.1 hr' with rfl | hr'
   ·refine yaV (ziS he _ _ ha hc) ?_
    rw [gt_putR ha hc]
    split
    ·assumption
    ·have:=hd _ ha
     have:=hd _ hc
     rw [zed (by simp only [free];omega) (by simp only [free];omega)]
     omega
   ·exact zfw hd' (fun r hr=>hin r (yal _ hr)) he r' hr'
  ·cases he
theorem zdd {r:Rule}:∀ {l:List Span} {i:Int},r∈monthsL l i↔∃ j:Nat,j<l.length/\(r=(i+(j:Int)+1,i+(j:Int),(l.getD j (0,0)).2)\/r=(i+(j:Int),i+(j:Int)+1,-(l.getD j (0,0)).1))
 | [],i=>by
  simp only [monthsL,ycN,yec,false_iff]
  rintro ⟨j,h,_⟩
  omega
 | s::l,i=>by
  rw [monthsL,yaq,yaq,zdd]
  constructor
  ·rintro (h | h | ⟨j,h1,h2⟩)
   ·exact ⟨0,yed _,.inl (by rw [h];simp)⟩
   ·exact ⟨0,yed _,.inr (by rw [h];simp)⟩
   ·refine ⟨j+1,yee h1,?_⟩
    rw [yef,show i+((j+1:Nat):Int)=i+1+(j:Int) by omega]
    exact h2
  ·rintro ⟨j,h1,h2⟩
   cases j with
   | zero =>
    rcases h2 with h2 | h2
    ·exact .inl (by rw [h2];simp)
    ·exact .inr (.inl (by rw [h2];simp))
   | succ j =>
    rw [yef,show i+((j+1:Nat):Int)=i+1+(j:Int) by omega] at h2
    exact .inr (.inr ⟨j,yeg h1,h2⟩)
theorem zef {r:Rule}:∀ {l:List Span} {k:Nat},r∈refsL l k↔∃ j:Nat,j<l.length/\(r=(13+((k+j:Nat):Int),0,(l.getD j (0,0)).2)\/r=(0,13+((k+j:Nat):Int),-(l.getD j (0,0)).1)\/(0<k+j/\r=(13+(((k+j:Nat):Int) - 1),13+((k+j:Nat):Int),-1)))
 | [],k=>by
  simp only [refsL,ycN,yec,false_iff]
  rintro ⟨j,h,_⟩
  omega
 | s::l,k=>by
  have ih:=zef (r:=r) (l:=l) (k:=k+1)
  rw [show ((k+1:Nat):Int)=(k:Int)+1 by omega] at ih
  rw [refsL,yaq,yaq,yas,ih]
  constructor
  ·rintro (h | h | h | ⟨j,h1,h2⟩)
   ·exact ⟨0,yed _,.inl (by rw [h];simp)⟩
   ·exact ⟨0,yed _,.inr (.inl (by rw [h];simp))⟩
   ·cases hk:decide (0<(k:Int)) with
    | false=>rw [hk] at h;cases h
    | true =>
     rw [hk] at h
     have hk:=of_decide_eq_true hk
     refine ⟨0,yed _,.inr (.inr ⟨by omega,?_⟩)⟩
     rw [yat.1 h];simp
   ·refine ⟨j+1,yee h1,?_⟩
    rw [yef,show k+(j+1)=k+1+j by omega]
    exact h2
  ·rintro ⟨j,h1,h2⟩
   cases j with
   | zero =>
    rcases h2 with h2 | h2 | ⟨h3,h2⟩
    ·exact .inl (by rw [h2];simp)
    ·exact .inr (.inl (by rw [h2];simp))
    ·refine .inr (.inr (.inl ?_))
     rw [decide_eq_true (show 0<(k:Int) by omega),cond_true,yat,h2]
     simp
   | succ j =>
    rw [yef,show k+(j+1)=k+1+j by omega] at h2
    exact .inr (.inr (.inr ⟨j,yeg h1,h2⟩))
theorem zdm {r:Rule}:∀ {n k:Nat},r∈samplesL n k↔∃ j:Nat,j<n/\(r=(21+((k+j:Nat):Int),0,16777216)\/r=(0,21+((k+j:Nat):Int),-1))
 | 0,k=>by
  simp only [samplesL,ycN,false_iff]
  rintro ⟨j,h,_⟩
  omega
 | n+1,k=>by
  have ih:=zdm (r:=r) (n:=n) (k:=k+1)
  rw [show ((k+1:Nat):Int)=(k:Int)+1 by omega] at ih
  rw [samplesL,yaq,yaq,ih]
  constructor
  ·rintro (h | h | ⟨j,h1,h2⟩)
   ·exact ⟨0,yed _,.inl (by rw [h];simp)⟩
   ·exact ⟨0,yed _,.inr (by rw [h];simp)⟩
   ·refine ⟨j+1,yee h1,?_⟩
    rw [show k+(j+1)=k+1+j by omega]
    exact h2
  ·rintro ⟨j,h1,h2⟩
   cases j with
   | zero =>
    rcases h2 with h2 | h2
    ·exact .inl (by rw [h2];simp)
    ·exact .inr (.inl (by rw [h2];simp))
   | succ j =>
    rw [show k+(j+1)=k+1+j by omega] at h2
    exact .inr (.inr ⟨j,yeg h1,h2⟩)
def ptOf (what index:Int):Nat:=(ofV what index).toNat
structure Truth (f:Fading) (t:Nat->Int):Prop where
 months:∀ j,j<f.1.length->(f.1.getD j (0,0)).1<=t (j+1) - t j/\t (j+1) - t j<=(f.1.getD j (0,0)).2
 refs:∀ k,k<f.2.1.length->(f.2.1.getD k (0,0)).1<=t (13+k) - t 0/\t (13+k) - t 0<=(f.2.1.getD k (0,0)).2
 more:∀ k,k+1<f.2.1.length->t (13+k)+1<=t (13+(k+1))
 samples:∀ s,s<f.2.2.1.toNat->1<=t (21+s) - t 0/\t (21+s) - t 0<=16777216
 checks:∀ c∈f.2.2.2,cond c.2.2.2 (t (ptOf c.2.1 c.2.2.1)<=t c.1.toNat) (t c.1.toNat+1<=t (ptOf c.2.1 c.2.2.1))
theorem zjW {f:Fading} {t:Nat->Int}:Sol (allL f) t↔Truth f t:=by
 have e1:∀ n:Nat,(13+(n:Int)).toNat=13+n:=fun n=>by omega
 have e2:∀ n:Nat,(21+(n:Int)).toNat=21+n:=fun n=>by omega
 constructor
 ·intro h
  have hm:∀ r∈monthsL f.1 0,t r.1.toNat - t r.2.1.toNat<=r.2.2:=fun r hr=>h r (yas.2 (.inl (yas.2 (.inl hr))))
  have hr:∀ r∈refsL f.2.1 0,t r.1.toNat - t r.2.1.toNat<=r.2.2:=fun r hr=>h r (yas.2 (.inl (yas.2 (.inr (yas.2 (.inl hr))))))
  have hs:∀ r∈samplesL f.2.2.1.toNat 0,t r.1.toNat - t r.2.1.toNat<=r.2.2:=fun r hr=>h r (yas.2 (.inl (yas.2 (.inr (yas.2 (.inr hr))))))
  have hc:∀ r∈checksL f,t r.1.toNat - t r.2.1.toNat<=r.2.2:=fun r hr=>h r (yas.2 (.inr hr))
  refine ⟨fun j hj=>?_,fun k hk=>?_,fun k hk=>?_,fun s hs'=>?_,fun c hc'=>?_⟩
  ·have a1:=hm _ (zdd.2 ⟨j,hj,.inl rfl⟩)
   have a2:=hm _ (zdd.2 ⟨j,hj,.inr rfl⟩)
   simp only [show ((0:Int)+(j:Int)+1).toNat=j+1 by omega,show ((0:Int)+(j:Int)).toNat=j by omega] at a1 a2
   omega
  ·have a1:=hr _ (zef (k:=0).2 ⟨k,hk,.inl rfl⟩)
   have a2:=hr _ (zef (k:=0).2 ⟨k,hk,.inr (.inl rfl)⟩)
   simp only [e1,ybH,yeh] at a1 a2
   omega
  ·have a1:=hr _ (zef (k:=0).2 ⟨k+1,hk,.inr (.inr ⟨by omega,rfl⟩)⟩)
   simp only [e1,ybH,show (13+(((k+1:Nat):Int) - 1)).toNat=13+k by omega] at a1
   omega
  ·have a1:=hs _ (zdm (k:=0).2 ⟨s,hs',.inl rfl⟩)
   have a2:=hs _ (zdm (k:=0).2 ⟨s,hs',.inr rfl⟩)
   simp only [e2,ybH,yeh] at a1 a2
   omega
  ·have a1:=hc (ruleOf c) (ycY hc')
   unfold ruleOf at a1
   unfold ptOf
   cases hf:c.2.2.2 with
   | true=>rw [hf] at a1;simp only [cond_true] at a1 ⊢;omega
   | false=>rw [hf] at a1;simp only [cond_false] at a1 ⊢;omega
 ·intro h r hr
  rcases yas.1 hr with hr | hr
  ·rcases yas.1 hr with hr | hr
   ·obtain ⟨j,hj,hh⟩:=zdd.1 hr
    have:=h.months j hj
    rcases hh with rfl | rfl
    ·simp only [show ((0:Int)+(j:Int)+1).toNat=j+1 by omega,show ((0:Int)+(j:Int)).toNat=j by omega]
     omega
    ·simp only [show ((0:Int)+(j:Int)+1).toNat=j+1 by omega,show ((0:Int)+(j:Int)).toNat=j by omega]
     omega
   ·rcases yas.1 hr with hr | hr
    ·obtain ⟨k,hk,hh⟩:=zef (k:=0).1 hr
     have:=h.refs k hk
     rcases hh with rfl | rfl | ⟨h0,rfl⟩
     ·simp only [e1,ybH,yeh];omega
     ·simp only [e1,ybH,yeh];omega
     ·have h2:=h.more (k - 1) (by omega)
      rw [show k - 1+1=k by omega] at h2
      simp only [e1,ybH,show (13+((k:Int) - 1)).toNat=13+(k - 1) by omega]
      omega
    ·obtain ⟨s,hs,hh⟩:=zdm (k:=0).1 hr
     have:=h.samples s hs
     rcases hh with rfl | rfl
     ·simp only [e2,ybH,yeh];omega
     ·simp only [e2,ybH,yeh];omega
  ·obtain ⟨c,hc,rfl⟩:=List.mem_map.1 hr
   have:=h.checks c hc
   unfold ruleOf
   unfold ptOf at this
   cases hf:c.2.2.2 with
   | true=>rw [hf] at this;simp only [cond_true] at this ⊢;omega
   | false=>rw [hf] at this;simp only [cond_false] at this ⊢;omega
theorem zmS {f:Fading} (h:OkC f):∀ r∈riseL f,Among (known f) r:=by
 have hm:=h.nm
 have hr':=h.nr
 have hs':=h.ns
 intro r hr
 rcases yas.1 hr with hr | hr
 ·obtain ⟨j,hj,hh⟩:=zdd.1 hr
  have hv:=h.months _ (zao f.1 (0,0) j hj)
  rcases hh with rfl | rfl
  ·exact ⟨j+1,j,by simp only [ybb,and_true];omega,by unfold known withAll;omega,by unfold known withAll;omega,by simp only;omega,by simp only;omega⟩
  ·exact ⟨j,j+1,by simp only [ybb,and_true];omega,by unfold known withAll;omega,by unfold known withAll;omega,by simp only;omega,by simp only;omega⟩
 ·rcases yas.1 hr with hr | hr
  ·obtain ⟨k,hk,hh⟩:=zef (k:=0).1 hr
   have hv:=h.refs _ (zao f.2.1 (0,0) k hk)
   rcases hh with rfl | rfl | ⟨h0,rfl⟩
   ·exact ⟨13+k,0,by simp only [ybb,and_true];omega,by unfold known withAll;omega,by unfold known withAll;omega,by simp only;omega,by simp only;omega⟩
   ·exact ⟨0,13+k,by simp only [ybb,and_true];omega,by unfold known withAll;omega,by unfold known withAll;omega,by simp only;omega,by simp only;omega⟩
   ·exact ⟨13+(k - 1),13+k,by simp only [ybb,and_true];omega,by unfold known withAll;omega,by unfold known withAll;omega,by simp only;omega,by simp only;omega⟩
  ·obtain ⟨s,hs,hh⟩:=zdm (k:=0).1 hr
   rcases hh with rfl | rfl
   ·exact ⟨21+s,0,by simp only [ybb,and_true];omega,by unfold known withAll;omega,by unfold known withAll;omega,by simp only;omega,by simp only;omega⟩
   ·exact ⟨0,21+s,by simp only [ybb,and_true];omega,by unfold known withAll;omega,by unfold known withAll;omega,by simp only;omega,by simp only;omega⟩
theorem zeO {f:Fading} (h:OkC f):∀ r∈allL f,Among (known f) r:=by
 intro r hr
 rcases yas.1 hr with hr | hr
 ·exact zmS h r hr
 ·exact zeN h r hr
theorem among27 {f:Fading} (h:OkC f) {r:Rule} (hr:Among (known f) r):In27 r:=by
 have:=hr.ok fun i hi=>zfP h hi
 exact ⟨this.1,this.2.1⟩
theorem zji {f:Fading} {t:Nat->Int} (h:OkC f) (ht:Truth f t) {i:Nat} (hi:known f i):0<=t i - t 0/\t i - t 0<=16777216:=by
 have hm:=h.nm
 have mon:∀ j,j<=f.1.length->0<=t j - t 0/\t j - t 0<=1000000*(j:Int):=by
  intro j
  induction j with
  | zero=>intro _;omega
  | succ j ih =>
   intro hj
   have h1:=ih (by omega)
   have h2:=ht.months j (by omega)
   have h3:=h.months _ (zao f.1 (0,0) j (by omega))
   omega
 rcases hi with hi | ⟨h1,h2⟩ | ⟨h1,h2⟩
 ·have:=mon i hi
  omega
 ·have h3:=ht.refs (i - 13) (by omega)
  have h4:=h.refs _ (zao f.2.1 (0,0) (i - 13) (by omega))
  rw [show 13+(i - 13)=i by omega] at h3
  omega
 ·have h3:=ht.samples (i - 21) (by omega)
  rw [show 21+(i - 21)=i by omega] at h3
  omega
theorem zgI {f:Fading} {t:Nat->Int} (h:OkC f) (ht:Truth f t):∃ b,enterL noBounds (allL f)=some b/\∀ i k,known f i->known f k->t i - t k<=gt b i k:=by
 classical
 obtain ⟨u,hu⟩:∃ u:Nat->Int,u=fun i=>if known f i then t i else t 0:=⟨_,rfl⟩
 have uk:∀ i,known f i->u i=t i:=fun i hi=>by rw [hu];simp [hi]
 have ub:∀ i,0<=u i - t 0/\u i - t 0<=16777216:=by
  intro i
  by_cases hi:known f i
  ·rw [uk i hi];exact zji h ht hi
  ·rw [hu];simp only [hi,if_false];omega
 have hsol:Sol (allL f) u:=by
  intro r hr
  have h0:=zjW.2 ht r hr
  obtain ⟨a,c,e,ha,hc,_⟩:=zeO h r hr
  rw [e] at h0 ⊢
  simp only [ydt] at h0 ⊢
  rw [uk a ha,uk c hc]
  exact h0
 have habv:Abv u noBounds:=by
  intro i k hi hk
  rw [show gt noBounds i k=cond (Nat.beq i k) 0 free from zfV _ hi hk]
  cases hb:Nat.beq i k with
  | true=>rw [Nat.eq_of_beq_eq_true hb,cond_true];omega
  | false =>
   have:=ub i
   have:=ub k
   simp only [cond_false,free];omega
 obtain ⟨b,h1,h2⟩:=sound (fun r hr=>among27 h (zeO h r hr)) hsol habv
 refine ⟨b,h1,fun i k hi hk=>?_⟩
 have:=h2 i k (zfP h hi) (zfP h hk)
 rw [uk i hi,uk k hk] at this
 exact this
theorem zlJ {f:Fading} {b:Bds} (h:OkC f) (hb:enterL noBounds (allL f)=some b) {p q:Nat} (hp:known f p) (hq:known f q) {v:Int} (h1:-(gt b q p)<=v) (h2:v<=gt b p q):∃ t,Truth f t/\t p - t q=v:=by
 have hI:=(all_in h).2 b hb
 have hd:∀ i,i<27->gt noBounds i i<=0:=fun i hi=>by rw [zec.dg i hi];omega
 have hent:=zfw hd (fun r hr=>among27 h (zeO h r hr)) hb
 refine ⟨fun i=>min (gt b i q) (gt b i p+v),zjW.1 fun r hr=>?_,?_⟩
 ·have h0:=hent r hr
  obtain ⟨a,c,e,ha,hc,_⟩:=zeO h r hr
  rw [e] at h0 ⊢
  simp only [ydt] at h0 ⊢
  have t1:=hI.tri a c q ha hc hq
  have t2:=hI.tri a c p ha hc hp
  omega
 ·have d1:=hI.dg p (zfP h hp)
  have d2:=hI.dg q (zfP h hq)
  simp only
  rw [d1,d2]
  omega
end Go.Fade
/-
 Chapter 12: what the document's functions give,in plain Lean.
-/
namespace Go.Fade
open Go Go.Sx
def ent (t:List (List Int)) (a b:Int):Int:=(t.getD (yby a) []).getD (yby b) 0
def mostT (t:List (List Int)) (a b v:Int):List (List Int):=t.set (yby a) ((t.getD (yby a) []).set (yby b) (min ((t.getD (yby a) []).getD (yby b) 0) v))
def sizeN (f:Fading):Nat:=1+f.1.length+f.2.1.length+f.2.2.1.toNat
def ptN (f:Fading) (a:Nat):Nat:=if a<=f.1.length then a else if a<=f.1.length+f.2.1.length then 13+(a - f.1.length - 1) else 21+(a - f.1.length - f.2.1.length - 1)
def cutF (f:Fading) (m:Nat):Fading:=(f.1,f.2.1,f.2.2.1,f.2.2.2.take m)
def tabOf (f:Fading) (b:Bds):Bds:=(yaf (sizeN f)).map fun a=>(yaf (sizeN f)).map fun c=>gt b (ptN f a) (ptN f c)
def tableV (f:Fading) (m:Nat):Bds × Bool:=match enterL noBounds (allL (cutF f m)) with
 | none=>([],false)
 | some b=>(tabOf f b,true)
def ref12u_Ref (x:Fading × Int):Int:=(1+(x.1.1.length:Int))+x.2
def zbu (x:Fading × Int):Prop:=x.1.1.length<=100/\-1000<=x.2/\x.2<=1000
def ref12u_Sample (x:Fading × Int):Int:=((1+(x.1.1.length:Int))+(x.1.2.1.length:Int))+x.2
def zbr (x:Fading × Int):Prop:=(x.1.1.length<=100/\x.1.2.1.length<=100)/\-1000<=x.2/\x.2<=1000
def zaI (x:Fading × Int × Int):Int:=cond (x.2.1==0) (ref12u_Ref (x.1,x.2.2)) (ref12u_Sample (x.1,x.2.2))
def zhE (x:Fading × Int × Int):Prop:=(x.1.1.length<=100/\x.1.2.1.length<=100)/\-1000<=x.2.2/\x.2.2<=1000
def ref12u_TableOf (x:Fading × Int):Bds × Bool:=tableV x.1 x.2.toNat
def zcY (x:Fading × Int):Prop:=cardsB x.1=true/\0<=x.2/\x.2<=(x.1.2.2.2.length:Int)
end Go.Fade
/-
 Chapter 12: the document's table: what is known of each two numbers of a truth. Plain Lean;no program in sight.
-/
namespace Go.Fade
open Go Go.Sx
def en (t:List (List Int)) (a b:Nat):Int:=(t.getD a []).getD b 0
structure Sq (N:Nat) (t:List (List Int)):Prop where
 len:t.length=N
 row:∀ a,a<N->(t.getD a []).length=N
theorem ent_en (t:List (List Int)) (a b:Nat):ent t (a:Int) (b:Int)=en t a b:=rfl
theorem sq_most {N:Nat} {t:List (List Int)} (h:Sq N t) {a b:Nat} (v:Int):Sq N (mostT t a b v):=by
 refine ⟨by rw [mostT,ybV,h.len],fun c hc=>?_⟩
 unfold mostT
 rw [ydt,ydt]
 by_cases e:c=a
 ·subst e
  rw [ybd,yei (by rw [h.len];exact hc),ydM,ybV]
  exact h.row c hc
 ·rw [ybd,ybY (Ne.symm e),<-ybd]
  exact h.row c hc
theorem en_most {N:Nat} {t:List (List Int)} (h:Sq N t) {a b:Nat} (ha:a<N) (hb:b<N) (v:Int) (c d:Nat):en (mostT t a b v) c d=if c=a/\d=b then min (en t a b) v else en t c d:=by
 unfold mostT en
 rw [ydt,ydt]
 by_cases e:c=a
 ·subst e
  rw [ybd (l:=t.set _ _),yei (by rw [h.len];exact ha),ydM]
  by_cases e':d=b
  ·subst e'
   rw [if_pos ⟨rfl,rfl⟩,ybd,yei (by rw [h.row c ha];exact hb),ydM]
  ·rw [if_neg fun hh=>e' hh.2,ybd,ybY (Ne.symm e'),<-ybd]
 ·rw [if_neg fun hh=>e hh.1,ybd (l:=t.set _ _),ybY (Ne.symm e),<-ybd]
theorem most_le {N:Nat} {t:List (List Int)} (h:Sq N t) {a b:Nat} (ha:a<N) (hb:b<N) (v:Int) (c d:Nat):en (mostT t a b v) c d<=en t c d:=by
 rw [en_most h ha hb]
 split
 ·rename_i hh;rw [hh.1,hh.2];omega
 ·exact ydB _
theorem most_at {N:Nat} {t:List (List Int)} (h:Sq N t) {a b:Nat} (ha:a<N) (hb:b<N) (v:Int):en (mostT t a b v) a b<=v:=by
 rw [en_most h ha hb,if_pos ⟨rfl,rfl⟩];omega
theorem sq_ext {N:Nat} {t t':List (List Int)} (h:Sq N t) (h':Sq N t') (e:∀ a b,a<N->b<N->en t a b=en t' a b):t=t':=by
 refine ydT (by rw [h.len,h'.len]) fun a h1 h2=>?_
 have ha:a<N:=by rw [h.len] at h1;exact h1
 have r1:=h.row a ha
 have r2:=h'.row a ha
 rw [getD_eq h1] at r1
 rw [getD_eq h2] at r2
 refine ydT (by rw [r1,r2]) fun k k1 k2=>?_
 have hk:k<N:=by rw [r1] at k1;exact k1
 have:=e a k ha hk
 unfold en at this
 rw [getD_eq h1,getD_eq h2,getD_eq k1,getD_eq k2] at this
 exact this
section
variable {f:Fading} {m:Nat}
theorem size_le (O:OkC f):sizeN f<=27:=by
 have:=O.nm;have:=O.nr;have:=O.ns
 unfold sizeN;omega
theorem zcQ {a:Nat} (h:a<=f.1.length):ptN f a=a:=by unfold ptN;rw [if_pos h]
theorem pt_ref {k:Nat} (h:k<f.2.1.length):ptN f (1+f.1.length+k)=13+k:=by
 unfold ptN;rw [if_neg (by omega),if_pos (by omega)];omega
theorem zhI {k:Nat}:ptN f (1+f.1.length+f.2.1.length+k)=21+k:=by
 unfold ptN;rw [if_neg (by omega),if_neg (by omega)];omega
theorem zhe {a:Nat} (h:a<sizeN f):known f (ptN f a):=by
 unfold sizeN at h
 unfold ptN known withAll
 split
 ·omega
 ·split<;>omega
theorem cut_ok (O:OkC f):OkC (cutF f m):=⟨O.nm,O.nr,O.ns,by show (f.2.2.2.take m).length<=40;rw [ybo];have:=O.nc;omega,O.months,O.refs,fun c hc=>O.checks c (ydH hc)⟩
def potL (f:Fading):Nat->Int
 | 0=>0
 | j+1=>potL f j+(f.1.getD j (0,0)).1
theorem pot_bd (O:OkC f):∀ j,j<=f.1.length->0<=potL f j/\potL f j<=1000000*(j:Int)
 | 0,_=>by simp [potL]
 | j+1,h=>by
  have ih:=pot_bd O j (by omega)
  have:=O.months _ (zao f.1 (0,0) j (by omega))
  simp only [potL]
  omega
theorem pot_top (O:OkC f) {j:Nat} (h:j<=f.1.length):0<=potL f j/\potL f j<=12000000:=by
 have:=pot_bd O j h
 have:=O.nm
 omega
def uL (f:Fading) (a:Nat):Int:=if a<=f.1.length then potL f a else 0
def vL (f:Fading) (a:Nat):Int:=if a<=f.1.length then potL f a else 33554432
theorem u_month {a:Nat} (h:a<=f.1.length):uL f a=potL f a:=if_pos h
theorem v_month {a:Nat} (h:a<=f.1.length):vL f a=potL f a:=if_pos h
theorem u_more {a:Nat} (h:f.1.length<a):uL f a=0:=if_neg (by omega)
theorem v_more {a:Nat} (h:f.1.length<a):vL f a=33554432:=if_neg (by omega)
theorem u_bd (O:OkC f) (a:Nat):0<=uL f a/\uL f a<=12000000:=by
 unfold uL;split
 ·exact pot_top O (by assumption)
 ·omega
theorem v_bd (O:OkC f) (a:Nat):0<=vL f a/\vL f a<=33554432:=by
 unfold vL;split
 ·have:=pot_top O (j:=a) (by assumption);omega
 ·omega
theorem u_le_v (O:OkC f) (a:Nat):uL f a<=vL f a:=by
 unfold uL vL;split<;>omega
structure Base (f:Fading) (m:Nat) (t:List (List Int)):Prop where
 sq:Sq (sizeN f) t
 dg:∀ a,a<sizeN f->en t a a<=0
 top:∀ a b,a<sizeN f->b<sizeN f->en t a b<=free
 fin:∀ a b,a<sizeN f->b<sizeN f->en t a b<free->en t a b<=16777216
 low:∀ a b,a<sizeN f->b<sizeN f->uL f a - vL f b<=en t a b
 snd:∀ y,Truth (cutF f m) y->∀ a b,a<sizeN f->b<sizeN f->y (ptN f a) - y (ptN f b)<=en t a b
theorem zcC (O:OkC f) {t:List (List Int)} (h:Base f m t) {a b:Nat} (ha:a<sizeN f) (hb:b<sizeN f) {v:Int} (hv:v<=16777216) (hl:uL f a - vL f b<=v) (hs:∀ y,Truth (cutF f m) y->y (ptN f a) - y (ptN f b)<=v) :
  Base f m (mostT t a b v)/\(∀ c d,en (mostT t a b v) c d<=en t c d)/\en (mostT t a b v) a b<=v:=by
 refine ⟨⟨sq_most h.sq v,fun c hc=>yaV (most_le h.sq ha hb v c c) (h.dg c hc),fun c d hc hd=>yaV (most_le h.sq ha hb v c d) (h.top c d hc hd),fun c d hc hd=>?_,fun c d hc hd=>?_,fun y hy c d hc hd=>?_⟩,most_le h.sq ha hb v,most_at h.sq ha hb v⟩
 ·rw [en_most h.sq ha hb]
  split
  ·intro _;omega
  ·exact h.fin c d hc hd
 ·rw [en_most h.sq ha hb]
  split
  ·rename_i e
   have:=h.low c d hc hd
   rw [e.1,e.2] at this ⊢
   omega
  ·exact h.low c d hc hd
 ·rw [en_most h.sq ha hb]
  split
  ·rename_i e
   have:=h.snd y hy c d hc hd
   have:=hs y hy
   rw [e.1,e.2] at *
   omega
  ·exact h.snd y hy c d hc hd
structure Edges (f:Fading) (i k s c:Nat) (t:List (List Int)):Prop where
 mo:∀ j,j<i->en t (j+1) j<=(f.1.getD j (0,0)).2/\en t j (j+1)<=-(f.1.getD j (0,0)).1
 re:∀ j,j<k->en t (1+f.1.length+j) 0<=(f.2.1.getD j (0,0)).2/\en t 0 (1+f.1.length+j)<=-(f.2.1.getD j (0,0)).1
 up:∀ j,j+1<k->en t (1+f.1.length+j) (1+f.1.length+(j+1))<=-1
 sa:∀ j,j<s->en t (1+f.1.length+f.2.1.length+j) 0<=16777216/\en t 0 (1+f.1.length+f.2.1.length+j)<=-1
 ch:∀ j,j<c->cond (f.2.2.2.getD j (0,0,0,false)).2.2.2 (en t (zaI (f,(f.2.2.2.getD j (0,0,0,false)).2.1,(f.2.2.2.getD j (0,0,0,false)).2.2.1)).toNat (f.2.2.2.getD j (0,0,0,false)).1.toNat<=0)
  (en t (f.2.2.2.getD j (0,0,0,false)).1.toNat (zaI (f,(f.2.2.2.getD j (0,0,0,false)).2.1,(f.2.2.2.getD j (0,0,0,false)).2.2.1)).toNat<=-1)
theorem Edges.le {i k s c:Nat} {t t':List (List Int)} (h:Edges f i k s c t) (hl:∀ a b,en t' a b<=en t a b):Edges f i k s c t':=by
 refine ⟨fun j hj=>⟨yaV (hl _ _) (h.mo j hj).1,yaV (hl _ _) (h.mo j hj).2⟩,fun j hj=>⟨yaV (hl _ _) (h.re j hj).1,yaV (hl _ _) (h.re j hj).2⟩,fun j hj=>yaV (hl _ _) (h.up j hj),
  fun j hj=>⟨yaV (hl _ _) (h.sa j hj).1,yaV (hl _ _) (h.sa j hj).2⟩,fun j hj=>?_⟩
 have:=h.ch j hj
 cases hc:(f.2.2.2.getD j (0,0,0,false)).2.2.2 with
 | true=>rw [hc] at this;exact yaV (hl _ _) this
 | false=>rw [hc] at this;exact yaV (hl _ _) this
theorem of_node (O:OkC f) {what index:Int} (hw:(what=0/\0<=index/\index<(f.2.1.length:Int))\/(what=1/\0<=index/\index<f.2.2.1)) :
  ∃ a:Nat,zaI (f,what,index)=(a:Int)/\a<sizeN f/\f.1.length<a/\ptN f a=ptOf what index:=by
 have:=O.ns
 rcases hw with ⟨rfl,h1,h2⟩ | ⟨rfl,h1,h2⟩
 ·refine ⟨1+f.1.length+index.toNat,?_,by unfold sizeN;omega,by omega,?_⟩
  ·show (1+(f.1.length:Int))+index=_
   omega
  ·rw [pt_ref (by omega)]
   show _=(13+index).toNat
   omega
 ·refine ⟨1+f.1.length+f.2.1.length+index.toNat,?_,by unfold sizeN;omega,by omega,?_⟩
  ·show ((1+(f.1.length:Int))+(f.2.1.length:Int))+index=_
   omega
  ·rw [zhI]
   show _=(21+index).toNat
   omega
theorem zeA {α:Type} (l:List α) (d:α) {m j:Nat} (h:j<m):(l.take m).getD j d=l.getD j d:=by
 simp [List.getD,List.getElem?_take,h]
theorem zmZ (O:OkC f) {t:List (List Int)} {i:Nat} (h:Base f m t) (hi:i<f.1.length) :
  Base f m (mostT (mostT t ((i+1:Nat):Int) i (f.1.getD i (0,0)).2) i ((i+1:Nat):Int) (-(f.1.getD i (0,0)).1))/\(Edges f i 0 0 0 t->Edges f (i+1) 0 0 0 (mostT (mostT t ((i+1:Nat):Int) i (f.1.getD i (0,0)).2) i ((i+1:Nat):Int) (-(f.1.getD i (0,0)).1))):=by
 have hv:=O.months _ (zao f.1 (0,0) i hi)
 have hN:i+1<sizeN f:=by unfold sizeN;omega
 have p:potL f (i+1)=potL f i+(f.1.getD i (0,0)).1:=rfl
 obtain ⟨b1,l1,a1⟩:=zcC O h (a:=i+1) (b:=i) (v:=(f.1.getD i (0,0)).2) hN (by omega) (by omega) (by rw [u_month (by omega),v_month (by omega)];omega) (fun y hy=>by
  rw [zcQ (by omega),zcQ (by omega)];exact (hy.months i hi).2)
 obtain ⟨b2,l2,a2⟩:=zcC O b1 (a:=i) (b:=i+1) (v:=-(f.1.getD i (0,0)).1) (by omega) hN (by omega) (by rw [u_month (by omega),v_month (by omega)];omega) (fun y hy=>by
  rw [zcQ (by omega),zcQ (by omega)];have:(f.1.getD i (0,0)).1<=y (i+1) - y i:=(hy.months i hi).1;omega)
 refine ⟨b2,fun he=>?_⟩
 have he:=he.le fun a b=>yaV (l2 a b) (l1 a b)
 refine ⟨fun j hj=>?_,he.re,he.up,he.sa,he.ch⟩
 by_cases e:j=i
 ·subst e;exact ⟨yaV (l2 _ _) a1,a2⟩
 ·exact he.mo j (by omega)
theorem zoP (O:OkC f) {t:List (List Int)} {k:Nat} (h:Base f m t) (hk:k<f.2.1.length) {t':List (List Int)}
  (ht:t'=mostT (mostT t ((1+f.1.length+k:Nat):Int) ((0:Nat):Int) (f.2.1.getD k (0,0)).2) ((0:Nat):Int) ((1+f.1.length+k:Nat):Int) (-(f.2.1.getD k (0,0)).1)) :
  Base f m t'/\(Edges f f.1.length k 0 0 t->(0<k->∀ t'',t''=mostT t' ((1+f.1.length+(k - 1):Nat):Int) ((1+f.1.length+k:Nat):Int) (-1)->Base f m t''/\Edges f f.1.length (k+1) 0 0 t'')/\(k=0->Edges f f.1.length (k+1) 0 0 t')):=by
 have hv:=O.refs _ (zao f.2.1 (0,0) k hk)
 have hN:1+f.1.length+k<sizeN f:=by unfold sizeN;omega
 have h0:0<sizeN f:=by unfold sizeN;omega
 have p0:potL f 0=0:=rfl
 obtain ⟨b1,l1,a1⟩:=zcC O h (a:=1+f.1.length+k) (b:=0) (v:=(f.2.1.getD k (0,0)).2) hN h0 (by omega) (by rw [u_more (by omega),v_month (by omega)];omega) (fun y hy=>by
  rw [pt_ref hk,zcQ (by omega)];exact (hy.refs k hk).2)
 obtain ⟨b2,l2,a2⟩:=zcC O b1 (a:=0) (b:=1+f.1.length+k) (v:=-(f.2.1.getD k (0,0)).1) h0 hN (by omega) (by rw [u_month (by omega),v_more (by omega)];omega) (fun y hy=>by
  rw [pt_ref hk,zcQ (by omega)];have:(f.2.1.getD k (0,0)).1<=y (13+k) - y 0:=(hy.refs k hk).1;omega)
 rw [<-ht] at b2 l2 a2
 refine ⟨b2,fun he=>?_⟩
 have he:=he.le fun a b=>yaV (l2 a b) (l1 a b)
 have hre:∀ j,j<k+1->en t' (1+f.1.length+j) 0<=(f.2.1.getD j (0,0)).2/\en t' 0 (1+f.1.length+j)<=-(f.2.1.getD j (0,0)).1:=by
  intro j hj
  by_cases e:j=k
  ·subst e;exact ⟨yaV (l2 _ _) a1,a2⟩
  ·exact he.re j (by omega)
 refine ⟨fun hk0 t'' ht''=>?_,fun hk0=>⟨he.mo,hre,fun j hj=>by omega,he.sa,he.ch⟩⟩
 obtain ⟨b3,l3,a3⟩:=zcC O b2 (a:=1+f.1.length+(k - 1)) (b:=1+f.1.length+k) (v:=-1) (by omega) hN (by omega) (by rw [u_more (by omega),v_more (by omega)];omega) (fun y hy=>by
  rw [pt_ref hk,pt_ref (by omega)]
  have:=hy.more (k - 1) (by show k - 1+1<f.2.1.length;omega)
  rw [show k - 1+1=k by omega] at this
  omega)
 rw [<-ht''] at b3 l3 a3
 refine ⟨b3,?_⟩
 refine ⟨(he.le l3).mo,fun j hj=>⟨yaV (l3 _ _) (hre j hj).1,yaV (l3 _ _) (hre j hj).2⟩,fun j hj=>?_,(he.le l3).sa,(he.le l3).ch⟩
 by_cases e:j+1=k
 ·rw [e]
  have:j=k - 1:=by omega
  rw [this];exact a3
 ·exact yaV (l3 _ _) (he.up j (by omega))
theorem zlm (O:OkC f) {t:List (List Int)} {k:Nat} (h:Base f m t) (hk:k<f.2.2.1.toNat) {t':List (List Int)}
  (ht:t'=mostT (mostT t ((1+f.1.length+f.2.1.length+k:Nat):Int) ((0:Nat):Int) 16777216) ((0:Nat):Int) ((1+f.1.length+f.2.1.length+k:Nat):Int) (-1)) :
  Base f m t'/\(Edges f f.1.length f.2.1.length k 0 t->Edges f f.1.length f.2.1.length (k+1) 0 t'):=by
 have hN:1+f.1.length+f.2.1.length+k<sizeN f:=by unfold sizeN;omega
 have h0:0<sizeN f:=by unfold sizeN;omega
 have p0:potL f 0=0:=rfl
 obtain ⟨b1,l1,a1⟩:=zcC O h (a:=1+f.1.length+f.2.1.length+k) (b:=0) (v:=16777216) hN h0 (by omega) (by rw [u_more (by omega),v_month (by omega)];omega) (fun y hy=>by
  rw [zhI,zcQ (by omega)];exact (hy.samples k hk).2)
 obtain ⟨b2,l2,a2⟩:=zcC O b1 (a:=0) (b:=1+f.1.length+f.2.1.length+k) (v:=-1) h0 hN (by omega) (by rw [u_month (by omega),v_more (by omega)];omega) (fun y hy=>by
  rw [zhI,zcQ (by omega)];have:=(hy.samples k hk).1;omega)
 rw [<-ht] at b2 l2 a2
 refine ⟨b2,fun he=>?_⟩
 have he:=he.le fun a b=>yaV (l2 a b) (l1 a b)
 refine ⟨he.mo,he.re,he.up,fun j hj=>?_,he.ch⟩
 by_cases e:j=k
 ·subst e;exact ⟨yaV (l2 _ _) a1,a2⟩
 ·exact he.sa j (by omega)
theorem znp (O:OkC f) {t:List (List Int)} {c:Nat} (h:Base f m t) (hc:c<m) (hm:m<=f.2.2.2.length) {C:Check} (hC:C=f.2.2.2.getD c (0,0,0,false)) :
  ∃ n mo:Nat,zaI (f,C.2.1,C.2.2.1)=(n:Int)/\C.1=(mo:Int)/\n<sizeN f/\mo<sizeN f /\
   (C.2.2.2=true->Base f m (mostT t (n:Int) (mo:Int) 0)/\(Edges f f.1.length f.2.1.length f.2.2.1.toNat c t->Edges f f.1.length f.2.1.length f.2.2.1.toNat (c+1) (mostT t (n:Int) (mo:Int) 0))) /\
   (C.2.2.2=false->Base f m (mostT t (mo:Int) (n:Int) (-1))/\(Edges f f.1.length f.2.1.length f.2.2.1.toNat c t->Edges f f.1.length f.2.1.length f.2.2.1.toNat (c+1) (mostT t (mo:Int) (n:Int) (-1)))):=by
 have hmem:C∈f.2.2.2:=by rw [hC];exact zao _ _ c (by omega)
 have hcut:C∈(cutF f m).2.2.2:=by
  rw [hC,<-zeA f.2.2.2 _ hc]
  exact zao (f.2.2.2.take m) _ c (by rw [ybo];omega)
 obtain ⟨⟨m0,m1⟩,hw⟩:=O.checks C hmem
 obtain ⟨n,n1,n2,n3,n4⟩:=of_node O hw
 have hmN:C.1.toNat<sizeN f:=by unfold sizeN;omega
 have hml:C.1.toNat<=f.1.length:=by omega
 have hp:=pot_top O hml
 refine ⟨n,C.1.toNat,n1,by omega,n2,hmN,fun hf=>?_,fun hf=>?_⟩
 ·obtain ⟨b1,l1,a1⟩:=zcC O h (a:=n) (b:=C.1.toNat) (v:=0) n2 hmN (by omega) (by rw [u_more n3,v_month hml];omega) (fun y hy=>by
   have:=hy.checks C hcut
   rw [hf] at this
   have this:y (ptOf C.2.1 C.2.2.1)<=y C.1.toNat:=this
   rw [n4,zcQ hml];omega)
  refine ⟨b1,fun he=>?_⟩
  have he:=he.le l1
  refine ⟨he.mo,he.re,he.up,he.sa,fun j hj=>?_⟩
  by_cases e:j=c
  ·subst e
   rw [<-hC,hf,n1]
   exact a1
  ·exact he.ch j (by omega)
 ·obtain ⟨b1,l1,a1⟩:=zcC O h (a:=C.1.toNat) (b:=n) (v:=-1) hmN n2 (by omega) (by rw [u_month hml,v_more n3];omega) (fun y hy=>by
   have:=hy.checks C hcut
   rw [hf] at this
   have this:y C.1.toNat+1<=y (ptOf C.2.1 C.2.2.1):=this
   rw [n4,zcQ hml];omega)
  refine ⟨b1,fun he=>?_⟩
  have he:=he.le l1
  refine ⟨he.mo,he.re,he.up,he.sa,fun j hj=>?_⟩
  by_cases e:j=c
  ·subst e
   rw [<-hC,hf,n1]
   exact a1
  ·exact he.ch j (by omega)
end
end Go.Fade
/-
 Chapter 12: the document's table: what follows by way of a third number. Plain Lean.
-/
namespace Go.Fade
open Go Go.Sx
section
variable {f:Fading} {m:Nat}
theorem en_out {N:Nat} {t:List (List Int)} (h:Sq N t) {a b:Nat} (ho:N<=a\/N<=b):en t a b=0:=by
 unfold en
 by_cases ha:a<N
 ·rw [ybd (l:=t.getD a []),ybv (by rw [h.row a ha];omega)];rfl
 ·rw [ybd (l:=t),ybv (by rw [h.len];omega)];rfl
theorem le_all {N:Nat} {t t':List (List Int)} (h:Sq N t) (h':Sq N t') (hl:∀ a b,a<N->b<N->en t' a b<=en t a b) (a b:Nat):en t' a b<=en t a b:=by
 by_cases ha:a<N
 ·by_cases hb:b<N
  ·exact hl a b ha hb
  ·rw [en_out h (.inr (by omega)),en_out h' (.inr (by omega))];exact ydB _
 ·rw [en_out h (.inl (by omega)),en_out h' (.inl (by omega))];exact ydB _
structure Cl (f:Fading) (k:Nat) (B:Int) (t:List (List Int)):Prop where
 tri:∀ c,c<k->∀ a b,a<sizeN f->b<sizeN f->en t a c<free->en t c b<free->en t a b<=en t a c+en t c b
 fin:∀ a b,a<sizeN f->b<sizeN f->en t a b<free->en t a b<=B
 reach:∀ a,a<sizeN f->(a<=k\/f.1.length<a)->en t a (min k f.1.length)<free/\en t (min k f.1.length) a<free
 all:f.1.length<k->∀ a b,a<sizeN f->b<sizeN f->en t a b<free
def capB (f:Fading) (k:Nat):Int:=16777216*2^(min k (f.1.length+1))
def lowB (f:Fading) (k:Nat):Int:=33554432*6^(k - (f.1.length+1))
theorem cap_le (O:OkC f) (k:Nat):16777216<=capB f k/\capB f k<=137438953472:=by
 have hm:=O.nm
 unfold capB
 have h1:(2:Nat)^(min k (f.1.length+1))<=2^13:=ydx (by omega) (by omega)
 have h2:1<=(2:Nat)^(min k (f.1.length+1)):=Nat.one_le_two_pow
 have h3:((2:Int)^(min k (f.1.length+1)))=(((2:Nat)^(min k (f.1.length+1)):Nat):Int):=by norm_cast
 rw [h3]
 omega
theorem zpD {k:Nat} (h:k<=f.1.length):capB f (k+1)=2*capB f k:=by
 unfold capB
 rw [show min (k+1) (f.1.length+1)=min k (f.1.length+1)+1 by omega,yej]
 omega
theorem zpE {k:Nat} (h:f.1.length<k):capB f (k+1)=capB f k:=by
 unfold capB
 rw [show min (k+1) (f.1.length+1)=min k (f.1.length+1) by omega]
theorem zme {k:Nat} (h:k<=f.1.length+1):lowB f k=33554432:=by
 unfold lowB
 rw [show k - (f.1.length+1)=0 by omega]
 rfl
theorem zmf {k:Nat} (h:f.1.length<k):lowB f (k+1)=6*lowB f k:=by
 unfold lowB
 rw [show k+1 - (f.1.length+1)=(k - (f.1.length+1))+1 by omega,yej]
 omega
theorem low_bd (O:OkC f) {k:Nat} (h:k<sizeN f):33554432<=lowB f k/\lowB f k<=438244169232678912:=by
 have hr:=O.nr
 have hs:=O.ns
 unfold sizeN at h
 unfold lowB
 obtain ⟨e,he⟩:∃ e,e=k - (f.1.length+1):=⟨_,rfl⟩
 have he':e<=13:=by omega
 rw [<-he]
 have h1:(6:Int)^e<=6^13:=by
  have:=ydx (n:=6) (by omega) he'
  exact_mod_cast this
 have h2:(1:Int)<=6^e:=by
  have:=Nat.one_le_pow e 6 (by omega)
  exact_mod_cast this
 have h4:(6:Int)^13=13060694016:=by decide
 rw [h4] at h1
 obtain ⟨z,hz⟩:∃ z:Int,z=6^e:=⟨_,rfl⟩
 rw [<-hz] at h1 h2 ⊢
 omega
structure Mid (f:Fading) (m k:Nat) (t:List (List Int)):Prop where
 sq:Sq (sizeN f) t
 dg:∀ a,a<sizeN f->en t a a<=0
 top:∀ a b,a<sizeN f->b<sizeN f->en t a b<=free
 snd:∀ y,Truth (cutF f m) y->∀ a b,a<sizeN f->b<sizeN f->y (ptN f a) - y (ptN f b)<=en t a b
 edges:Edges f f.1.length f.2.1.length f.2.2.1.toNat m t
 low:k<=f.1.length+1->∀ a b,a<sizeN f->b<sizeN f->uL f a - vL f b<=en t a b
 lowM:∀ a b,a<sizeN f->b<sizeN f->-(lowB f k)<=en t a b
 cl:(∃ a,a<sizeN f/\en t a a<0)\/Cl f k (capB f k) t
theorem zpd (O:OkC f) {t:List (List Int)} (h:Base f m t) (he:Edges f f.1.length f.2.1.length f.2.2.1.toNat m t):Mid f m 0 t:=by
 have hc:=cap_le O 0
 refine ⟨h.sq,h.dg,h.top,h.snd,he,fun _=>h.low,fun a b ha hb=>?_,.inr ⟨fun c hc=>by omega,fun a b ha hb hf=>?_,fun a ha hr=>?_,fun h0=>by omega⟩⟩
 ·rw [zme (by omega)]
  have:=h.low a b ha hb
  have:=u_bd O a
  have:=v_bd O b
  omega
 ·have:=h.fin a b ha hb hf;omega
 ·rw [show min 0 f.1.length=0 by omega]
  have ns:=O.ns
  have d0:=h.dg a ha
  rcases hr with hr | hr
  ·have:a=0:=by omega
   subst this
   simp only [free];omega
  ·unfold sizeN at ha
   by_cases h1:a<=f.1.length+f.2.1.length
   ·obtain ⟨j,rfl⟩:∃ j,a=1+f.1.length+j:=⟨a - 1 - f.1.length,by omega⟩
    have h2:=he.re j (by omega)
    have h3:=O.refs _ (zao f.2.1 (0,0) j (by omega))
    simp only [free];omega
   ·obtain ⟨j,rfl⟩:∃ j,a=1+f.1.length+f.2.1.length+j:=⟨a - 1 - f.1.length - f.2.1.length,by omega⟩
    have h2:=he.sa j (by omega)
    simp only [free];omega
def upd (t:List (List Int)) (k a b:Nat):Int:=if en t a k<free/\en t k b<free then min (en t a b) (en t a k+en t k b) else en t a b
theorem upd_le (t:List (List Int)) (k a b:Nat):upd t k a b<=en t a b:=by
 unfold upd;split<;>omega
theorem upd_via {t:List (List Int)} {k a b:Nat} (h1:en t a k<free) (h2:en t k b<free):upd t k a b<=en t a k+en t k b:=by
 unfold upd;rw [if_pos ⟨h1,h2⟩];omega
theorem zdg (t:List (List Int)) (k a b:Nat):upd t k a b=en t a b\/(en t a k<free/\en t k b<free/\upd t k a b=en t a k+en t k b):=by
 unfold upd
 split
 ·rename_i h
  by_cases hm:en t a b<=en t a k+en t k b
  ·left;omega
  ·right;exact ⟨h.1,h.2,by omega⟩
 ·exact .inl rfl
theorem upd_row {t:List (List Int)} {k:Nat} (h0:en t k k=0) (b:Nat):upd t k k b=en t k b:=by
 unfold upd;rw [h0];split<;>omega
theorem upd_col {t:List (List Int)} {k:Nat} (h0:en t k k=0) (a:Nat):upd t k a k=en t a k:=by
 unfold upd;rw [h0];split<;>omega
theorem zlC (O:OkC f) {k:Nat} {t t':List (List Int)} (h:Mid f m k t) (hk:k<sizeN f) (h0:en t k k=0) (hs:Sq (sizeN f) t') (hu:∀ a b,a<sizeN f->b<sizeN f->en t' a b=upd t k a b):Mid f m (k+1) t':=by
 have hle:∀ a b,a<sizeN f->b<sizeN f->en t' a b<=en t a b:=fun a b ha hb=>by rw [hu a b ha hb];exact upd_le t k a b
 refine ⟨hs,fun a ha=>yaV (hle a a ha ha) (h.dg a ha),fun a b ha hb=>yaV (hle a b ha hb) (h.top a b ha hb),fun y hy a b ha hb=>?_,h.edges.le (le_all h.sq hs hle),fun hk' a b ha hb=>?_,fun a b ha hb=>?_,?_⟩
 ·rw [hu a b ha hb]
  rcases zdg t k a b with e | ⟨_,_,e⟩
  ·rw [e];exact h.snd y hy a b ha hb
  ·have:=h.snd y hy a k ha hk
   have:=h.snd y hy k b hk hb
   omega
 ·rw [hu a b ha hb]
  have h1:=h.low (by omega) a k ha hk
  have h2:=h.low (by omega) k b hk hb
  rw [v_month (by omega)] at h1
  rw [u_month (by omega)] at h2
  rcases zdg t k a b with e | ⟨_,_,e⟩
  ·rw [e];exact h.low (by omega) a b ha hb
  ·omega
 ·rw [hu a b ha hb]
  by_cases hk':k<=f.1.length
  ·rw [zme (by omega)]
   have h1:=h.low (by omega) a k ha hk
   have h2:=h.low (by omega) k b hk hb
   rw [v_month (by omega)] at h1
   rw [u_month (by omega)] at h2
   have h3:=h.low (by omega) a b ha hb
   have:=u_bd O a
   have:=v_bd O b
   rcases zdg t k a b with e | ⟨_,_,e⟩<;>omega
  ·rw [zmf (by omega)]
   have:=low_bd O hk
   have:=h.lowM a b ha hb
   have:=h.lowM a k ha hk
   have:=h.lowM k b hk hb
   rcases zdg t k a b with e | ⟨_,_,e⟩<;>omega
 ·rcases h.cl with ⟨a,ha,hn⟩ | hc
  ·exact .inl ⟨a,ha,yek (hle a a ha ha) hn⟩
  right
  have cb:=cap_le O k
  obtain ⟨B,hB⟩:∃ B,B=capB f k:=⟨_,rfl⟩
  rw [<-hB] at cb hc
  have two:∀ a b,a<sizeN f->b<sizeN f->en t a k<free->en t k b<free->en t a k+en t k b<=2*B:=fun a b ha hb h1 h2=>by
   have:=hc.fin a k ha hk h1
   have:=hc.fin k b hk hb h2
   omega
  have rowk:∀ b,b<sizeN f->en t' k b=en t k b:=fun b hb=>by rw [hu k b hk hb];exact upd_row h0 b
  have colk:∀ a,a<sizeN f->en t' a k=en t a k:=fun a ha=>by rw [hu a k ha hk];exact upd_col h0 a
  refine ⟨fun c hck a b ha hb h1 h2=>?_,fun a b ha hb hf=>?_,fun a ha hr=>?_,fun hM a b ha hb=>?_⟩
  ·have hcN:c<sizeN f:=by omega
   by_cases e:c=k
   ·subst e
    rw [colk a ha] at h1 ⊢
    rw [rowk b hb] at h2 ⊢
    rw [hu a b ha hb]
    exact upd_via h1 h2
   have hck:c<k:=by omega
   rw [hu a c ha hcN] at h1 ⊢
   rw [hu c b hcN hb] at h2 ⊢
   rw [hu a b ha hb]
   have hab:=upd_le t k a b
   rcases zdg t k a c with e1 | ⟨f1,f2,e1⟩<;>rcases zdg t k c b with e2 | ⟨f3,f4,e2⟩<;>rw [e1] at h1 ⊢<;>rw [e2] at h2 ⊢
   ·have:=hc.tri c hck a b ha hb h1 h2;omega
   ·have g1:=hc.tri c hck a k ha hk h1 f3
    have:=hc.fin a c ha hcN h1
    have:=hc.fin c k hcN hk f3
    have:=upd_via (t:=t) (k:=k) (a:=a) (b:=b) (by simp only [free];omega) f4
    omega
   ·have g1:=hc.tri c hck k b hk hb f2 h2
    have:=hc.fin k c hk hcN f2
    have:=hc.fin c b hcN hb h2
    have:=upd_via (t:=t) (k:=k) (a:=a) (b:=b) f1 (by simp only [free];omega)
    omega
   ·have g1:=hc.tri c hck k k hk hk f2 f3
    have:=upd_via (t:=t) (k:=k) (a:=a) (b:=b) f1 f4
    omega
  ·rw [hu a b ha hb] at hf ⊢
   by_cases hk':k<=f.1.length
   ·rw [zpD hk',<-hB]
    rcases zdg t k a b with e | ⟨f1,f2,e⟩
    ·rw [e] at hf ⊢
     have:=hc.fin a b ha hb hf;omega
    ·have:=two a b ha hb f1 f2;omega
   ·rw [zpE (by omega),<-hB]
    have:=hc.fin a b ha hb (hc.all (by omega) a b ha hb)
    have:=upd_le t k a b
    omega
  ·by_cases hkM:f.1.length<=k
   ·have:=hc.reach a ha (by omega)
    rw [show min k f.1.length=f.1.length by omega] at this
    rw [show min (k+1) f.1.length=f.1.length by omega]
    have hM:f.1.length<sizeN f:=by unfold sizeN;omega
    exact ⟨yek (hle _ _ ha hM) this.1,yek (hle _ _ hM ha) this.2⟩
   ·rw [show min (k+1) f.1.length=k+1 by omega]
    have hk1:k+1<sizeN f:=by unfold sizeN;omega
    by_cases e:a=k+1
    ·subst e
     have:=h.dg (k+1) ha
     have:=hle _ _ hk1 hk1
     simp only [free];omega
    ·have hr:=hc.reach a ha (by omega)
     rw [show min k f.1.length=k by omega] at hr
     obtain ⟨m1,m2⟩:=h.edges.mo k (by omega)
     have hv:=O.months _ (zao f.1 (0,0) k (by omega))
     have b1:=hc.fin a k ha hk hr.1
     have b2:=hc.fin k a hk ha hr.2
     have v1:=upd_via (t:=t) (k:=k) (a:=a) (b:=k+1) hr.1 (by simp only [free];omega)
     have v2:=upd_via (t:=t) (k:=k) (a:=k+1) (b:=a) (by simp only [free];omega) hr.2
     rw [hu a (k+1) ha hk1,hu (k+1) a hk1 ha]
     simp only [free];omega
  ·by_cases hkM:f.1.length<k
   ·exact yek (hle _ _ ha hb) (hc.all hkM a b ha hb)
   ·have e:k=f.1.length:=by omega
    have r1:=(hc.reach a ha (by omega)).1
    have r2:=(hc.reach b hb (by omega)).2
    rw [show min k f.1.length=k by omega] at r1 r2
    have:=upd_via (t:=t) (k:=k) r1 r2
    have:=two a b ha hb r1 r2
    rw [hu a b ha hb]
    simp only [free];omega
theorem znS (O:OkC f) {k:Nat} {t t':List (List Int)} (h:Mid f m k t) (hk:k<sizeN f) (h0:en t k k<0) (hs:Sq (sizeN f) t') (hle:∀ a b,a<sizeN f->b<sizeN f->en t' a b<=en t a b) (hlow:∀ a b,a<sizeN f->b<sizeN f->-(6*lowB f k)<=en t' a b):Mid f m (k+1) t':=by
 have hkM:f.1.length<k:=by
  rcases ycv f.1.length k with h1 | h1
  ·exact h1
  ·have:=h.low (by omega) k k hk hk
   rw [u_month h1,v_month h1] at this
   omega
 refine ⟨hs,fun a ha=>yaV (hle a a ha ha) (h.dg a ha),fun a b ha hb=>yaV (hle a b ha hb) (h.top a b ha hb),fun y hy a b ha hb=>?_,h.edges.le (le_all h.sq hs hle),fun hk'=>by omega,fun a b ha hb=>?_,.inl ⟨k,hk,yek (hle k k hk hk) h0⟩⟩
 ·have:=h.snd y hy k k hk hk
  omega
 ·rw [zmf hkM];exact hlow a b ha hb
theorem low_k {k:Nat} {t:List (List Int)} (h:Mid f m k t) (hk:k<sizeN f):en t k k=0\/en t k k<0:=by
 have:=h.dg k hk;omega
theorem tab_sq (b:Bds):Sq (sizeN f) (tabOf f b):=by
 refine ⟨by simp [tabOf],fun a ha=>?_⟩
 unfold tabOf
 rw [zbU _ _ ha]
 simp
theorem en_tab (b:Bds) {a c:Nat} (ha:a<sizeN f) (hc:c<sizeN f):en (tabOf f b) a c=gt b (ptN f a) (ptN f c):=by
 unfold en tabOf
 rw [zbU _ _ ha,zbU _ _ hc]
def ndN (f:Fading) (p:Nat):Nat:=if p<=12 then p else if p<21 then 1+f.1.length+(p - 13) else 1+f.1.length+f.2.1.length+(p - 21)
theorem nd_pt (O:OkC f) {a:Nat} (h:a<sizeN f):ndN f (ptN f a)=a:=by
 have:=O.nm;have:=O.nr
 unfold sizeN at h
 unfold ndN ptN
 repeat' split
 all_goals omega
theorem mid_end (O:OkC f) (hm:m<=f.2.2.2.length) {t:List (List Int)} (h:Mid f m (sizeN f) t) :
  (∀ a,a<sizeN f->0<=en t a a)/\tableV f m=(t,true)\/(∃ a,a<sizeN f/\en t a a<0)/\tableV f m=([],false):=by
 have hM:f.1.length<sizeN f:=by unfold sizeN;omega
 by_cases hn:∃ a,a<sizeN f/\en t a a<0
 ·right
  refine ⟨hn,?_⟩
  obtain ⟨a,ha,hn⟩:=hn
  unfold tableV
  cases he:enterL noBounds (allL (cutF f m)) with
  | none=>rfl
  | some b =>
   exfalso
   have hI:=(all_in (cut_ok O)).2 b he
   have k0:known (cutF f m) 0:=known0 _
   have d0:=hI.dg 0 (by omega)
   obtain ⟨y,hy,_⟩:=zlJ (cut_ok O) he k0 k0 (v:=0) (by omega) (by omega)
   have:=h.snd y hy a a ha ha
   omega
 left
 have hd:∀ a,a<sizeN f->0<=en t a a:=fun a ha=>by
  rcases Int.lt_or_le (en t a a) 0 with h1 | h1
  ·exact absurd ⟨a,ha,h1⟩ hn
  ·exact h1
 refine ⟨hd,?_⟩
 have hc:=h.cl.resolve_left hn
 have al:=hc.all hM
 have tri:∀ a b c,a<sizeN f->b<sizeN f->c<sizeN f->en t a b<=en t a c+en t c b:=fun a b c ha hb hcN=>hc.tri c hcN a b ha hb (al a c ha hcN) (al c b hcN hb)
 have hm':=O.nm
 have hr':=O.nr
 have h0N:0<sizeN f:=by omega
 have tr:∀ b,b<sizeN f->Truth (cutF f m) fun p=>en t (ndN f p) b:=by
  intro b hb
  have n1:∀ j,j<=f.1.length->ndN f j=j:=fun j hj=>by unfold ndN;rw [if_pos (by omega)]
  have n2:∀ j,j<f.2.1.length->ndN f (13+j)=1+f.1.length+j:=fun j hj=>by unfold ndN;rw [if_neg (by omega),if_pos (by omega)];omega
  have n3:∀ j,ndN f (21+j)=1+f.1.length+f.2.1.length+j:=fun j=>by unfold ndN;rw [if_neg (by omega),if_neg (by omega)];omega
  refine ⟨fun j hj=>?_,fun j hj=>?_,fun j hj=>?_,fun j hj=>?_,fun c hc'=>?_⟩
  ·have hj:j<f.1.length:=hj
   obtain ⟨e1,e2⟩:=h.edges.mo j hj
   have jN:j+1<sizeN f:=by omega
   rw [n1 j (by omega),n1 (j+1) (by omega)]
   have g1:=tri (j+1) b j jN hb (by omega)
   have g2:=tri j b (j+1) (by omega) hb jN
   show (f.1.getD j (0,0)).1<=_/\_<=(f.1.getD j (0,0)).2
   omega
  ·have hj:j<f.2.1.length:=hj
   obtain ⟨e1,e2⟩:=h.edges.re j hj
   have jN:1+f.1.length+j<sizeN f:=by unfold sizeN;omega
   rw [n2 j hj,n1 0 (by omega)]
   have g1:=tri (1+f.1.length+j) b 0 jN hb h0N
   have g2:=tri 0 b (1+f.1.length+j) h0N hb jN
   show (f.2.1.getD j (0,0)).1<=_/\_<=(f.2.1.getD j (0,0)).2
   omega
  ·have hj:j+1<f.2.1.length:=hj
   have e1:=h.edges.up j hj
   have jN:1+f.1.length+(j+1)<sizeN f:=by unfold sizeN;omega
   rw [n2 j (by omega),n2 (j+1) hj]
   have g1:=tri (1+f.1.length+j) b (1+f.1.length+(j+1)) (by omega) hb jN
   omega
  ·have hj:j<f.2.2.1.toNat:=hj
   obtain ⟨e1,e2⟩:=h.edges.sa j hj
   have jN:1+f.1.length+f.2.1.length+j<sizeN f:=by unfold sizeN;omega
   rw [n3 j,n1 0 (by omega)]
   have g1:=tri (1+f.1.length+f.2.1.length+j) b 0 jN hb h0N
   have g2:=tri 0 b (1+f.1.length+f.2.1.length+j) h0N hb jN
   omega
  ·obtain ⟨j,hj,hcj⟩:=List.mem_iff_getElem.1 hc'
   have hjl:j<m/\j<f.2.2.2.length:=by
    have:j<(f.2.2.2.take m).length:=hj
    rw [ybo] at this
    omega
   have hcc:c=f.2.2.2.getD j (0,0,0,false):=by
    rw [<-zeA f.2.2.2 _ hjl.1,<-hcj]
    exact (getD_eq hj).symm
   have e1:=h.edges.ch j hjl.1
   rw [<-hcc] at e1
   obtain ⟨⟨m0,m1⟩,hw⟩:=O.checks c (ydH hc')
   obtain ⟨a,a1,a2,a3,a4⟩:=of_node O hw
   rw [a1,ydt] at e1
   have hmN:c.1.toNat<sizeN f:=by unfold sizeN;omega
   have nd1:ndN f (ptOf c.2.1 c.2.2.1)=a:=by rw [<-a4];exact nd_pt O a2
   rw [nd1,n1 c.1.toNat (by omega)]
   cases hf:c.2.2.2 with
   | true =>
    rw [hf] at e1
    have e1:en t a c.1.toNat<=0:=e1
    have g1:=tri a b c.1.toNat a2 hb hmN
    show _<=_
    omega
   | false =>
    rw [hf] at e1
    have e1:en t c.1.toNat a<=-1:=e1
    have g1:=tri c.1.toNat b a hmN hb a2
    show _+1<=_
    omega
 obtain ⟨b,hb,_⟩:=zgI (cut_ok O) (tr 0 h0N)
 have hI:=(all_in (cut_ok O)).2 b hb
 have key:∀ a c,a<sizeN f->c<sizeN f->en t a c=gt b (ptN f a) (ptN f c):=by
  intro a c ha hcN
  have ka:known (cutF f m) (ptN f a):=zhe ha
  have kc:known (cutF f m) (ptN f c):=zhe hcN
  apply Int.le_antisymm
  ·obtain ⟨b',hb',hl⟩:=zgI (cut_ok O) (tr c hcN)
   rw [hb] at hb';cases hb'
   have:=hl _ _ ka kc
   rw [nd_pt O ha,nd_pt O hcN] at this
   have:=h.dg c hcN
   have:=hd c hcN
   omega
  ·have t1:=hI.tri _ _ _ kc ka kc
   have d1:=hI.dg _ (hI.lt _ kc)
   obtain ⟨y,hy,hv⟩:=zlJ (cut_ok O) hb ka kc (v:=gt b (ptN f a) (ptN f c)) (by omega) (by omega)
   have:=h.snd y hy a c ha hcN
   omega
 unfold tableV
 rw [hb]
 simp only [ybb,and_true]
 exact sq_ext (tab_sq b) h.sq fun a c ha hcN=>by rw [en_tab b ha hcN,key a c ha hcN]
end
end Go.Fade
/- Written by a program of mine (wip/tools/gen.py): contexts and conditions of functions. -/
set_option maxHeartbeats 4000000
namespace Go.Fade
open Go Go.Sx
def T4:Tabs:={
 tyL:=[(3,I),(4,.bo),(31,(.st (.p I I))),(56,(.sl I)),(58,(.sl (.st (.p I I)))),(74,(.sl (.st (.p I (.p I (.p I .bo)))))),(76,(.st (.p (.sl (.st (.p I I))) (.p (.sl (.st (.p I I))) (.p I (.sl (.st (.p I (.p I (.p I .bo)))))))))),(84,(.sl (.sl I))),(89,(.st (.p I (.p I (.p I .bo)))))],
 elL:=[(56,3),(58,31),(74,89),(84,56)],
 oneL:=[56,58,74],
 mtyL:=[(122,(3,221)),(123,(3,221)),(147,(153,3)),(148,(153,3)),(249,(3,4)),(282,(4,281))] }
def k34:Con:={ args:=[(.st (.p (.sl (.st (.p I I))) (.p (.sl (.st (.p I I))) (.p I (.sl (.st (.p I (.p I (.p I .bo))))))))),I],res:=[I],pre:=zbu,val:=ref12u_Ref }
def k35:Con:={ args:=[(.st (.p (.sl (.st (.p I I))) (.p (.sl (.st (.p I I))) (.p I (.sl (.st (.p I (.p I (.p I .bo))))))))),I],res:=[I],pre:=zbr,val:=ref12u_Sample }
def k99:Con:={ args:=[(.st (.p (.sl (.st (.p I I))) (.p (.sl (.st (.p I I))) (.p I (.sl (.st (.p I (.p I (.p I .bo))))))))),I,I],res:=[I],pre:=zhE,val:=zaI }
def k33:Con:={ args:=[(.st (.p (.sl (.st (.p I I))) (.p (.sl (.st (.p I I))) (.p I (.sl (.st (.p I (.p I (.p I .bo))))))))),I],res:=[(.sl (.sl I)),.bo],pre:=zcY,val:=ref12u_TableOf }
def cx34:Cx:=mkCx T4 11 [] [] [] [] [] [] [] none
abbrev yZK:=((List (Int × Int)) × (List (Int × Int)) × Int × List (Int × Int × Int × Bool))
abbrev yZJ:=(List (List Int))
abbrev yZI:=(Prod Int yZJ)
def V34 (x:yZK × Int):Prop:=(Z.in64 (1+(x.1.1.length:Int))/\(Z.in64 ((1+(x.1.1.length:Int))+x.2)/\((((1+(x.1.1.length:Int))+x.2):Int)=(ref12u_Ref x))))
theorem e34 (x:Ds k34.args):vcFun cx34 f34 k34 x=V34 x:=by kernel_rfl
def cx35:Cx:=mkCx T4 15 [] [] [] [] [] [] [] none
def V35 (x:yZK × Int):Prop:=(Z.in64 (1+(x.1.1.length:Int))/\(Z.in64 ((1+(x.1.1.length:Int))+(x.1.2.1.length:Int))/\(Z.in64 (((1+(x.1.1.length:Int))+(x.1.2.1.length:Int))+x.2)/\(((((1+(x.1.1.length:Int))+(x.1.2.1.length:Int))+x.2):Int)=(ref12u_Sample x)))))
theorem e35 (x:Ds k35.args):vcFun cx35 f35 k35 x=V35 x:=by kernel_rfl
def cx99:Cx:=mkCx T4 15 [(34,k34),(35,k35)] [] [] [] [] [] [] none
def V99 (x:yZK × Int × Int):Prop:=((((x.2.1==0)=true)->((zbu (x.1,x.2.2))/\(((ref12u_Ref (x.1,x.2.2)):Int)=(zaI x))))/\(((x.2.1==0)=false)->((zbr (x.1,x.2.2))/\(((ref12u_Sample (x.1,x.2.2)):Int)=(zaI x)))))
theorem e99 (x:Ds k99.args):vcFun cx99 f99 k99 x=V99 x:=by kernel_rfl
def zpA:Cx:=mkCx T4 23 [] [] [] [] [] [] [] none
def i33u_69:Inl:=mkInl 98 1000000 70000000 zpA f98
def zpz:Cx:=mkCx T4 23 [] [] [] [] [] [] [] none
def i33u_81:Inl:=mkInl 98 1000000 82000000 zpz f98
def zpy:Cx:=mkCx T4 23 [] [] [] [] [] [] [] none
def i33u_99:Inl:=mkInl 98 1000000 100000000 zpy f98
def zoB:Cx:=mkCx T4 23 [] [] [] [] [] [] [] none
def zmq:Inl:=mkInl 98 1000000 112000000 zoB f98
def zoA:Cx:=mkCx T4 23 [] [] [] [] [] [] [] none
def zmp:Inl:=mkInl 98 1000000 123000000 zoA f98
def zoz:Cx:=mkCx T4 23 [] [] [] [] [] [] [] none
def zmo:Inl:=mkInl 98 1000000 134000000 zoz f98
def zoy:Cx:=mkCx T4 23 [] [] [] [] [] [] [] none
def zmn:Inl:=mkInl 98 1000000 139000000 zoy f98
def zox:Cx:=mkCx T4 23 [] [] [] [] [] [] [] none
def zmm:Inl:=mkInl 98 1000000 162000000 zox f98
def zow:Cx:=mkCx T4 23 [] [] [] [] [] [] [] none
def zml:Inl:=mkInl 98 1000000 167000000 zow f98
def zov:Cx:=mkCx T4 23 [] [] [] [] [] [] [] none
def zmk:Inl:=mkInl 98 1000000 219000000 zov f98
def cx33:Cx:=withInl [(69,i33u_69),(81,i33u_81),(99,i33u_99),(111,zmq),(122,zmp),(133,zmo),(138,zmn),(161,zmm),(166,zml),(218,zmk)] <| withR [7,50,51] <| mkCx T4 233 [(34,k34),(35,k35),(99,k99)] [] [] [] [] [(4,⟨[(7,true),(8,false)],[],[],[]⟩),(8,⟨[(9,true),(10,false)],[],[100007],[]⟩),(14,⟨[(11,false)],[100007],[],[]⟩),(19,⟨[(12,false)],[100007],[],[]⟩),(26,⟨[(13,false)],[100007],[],[]⟩),(31,⟨[(14,false)],[100007],[],[]⟩),(39,⟨[(17,false)],[100007],[],[]⟩),(42,⟨[(18,false)],[100007],[],[]⟩),(45,⟨[(19,false)],[100007],[],[]⟩),(50,⟨[(20,false)],[],[100007],[]⟩)] [] none
def V33 (x:yZK × Int):Prop:=(Z.in64 (1+(x.1.1.length:Int))/\(Z.in64 ((1+(x.1.1.length:Int))+(x.1.2.1.length:Int))/\(Z.in64 (((1+(x.1.1.length:Int))+(x.1.2.1.length:Int))+x.1.2.2.1)/\Z.LoopP (X:=(Prod yZJ Int)) (([],0)) (fun s0 K0=>(((decide ((s0.2:Int)<(((1+(x.1.1.length:Int))+(x.1.2.1.length:Int))+x.1.2.2.1))=true)->Z.LoopP (X:=(Prod (List Int) Int)) (([],0)) (fun s1 K1=>(((decide ((s1.2:Int)<(((1+(x.1.1.length:Int))+(x.1.2.1.length:Int))+x.1.2.2.1))=true)->(Z.roomy 1 ((s1.1++((yaa 1 0).set 0 1099511627776)).length:Int)/\(Z.in64 (s1.2+1)/\(((s0.1:yZJ)=s0.1)/\(K1 ((s1.1++((yaa 1 0).set 0 1099511627776)),(s1.2+1)))))))/\((decide ((s1.2:Int)<(((1+(x.1.1.length:Int))+(x.1.2.1.length:Int))+x.1.2.2.1))=false)->(((0:Int)<=s0.2/\(s0.2:Int)<(s1.1.length:Int))/\(Z.roomy 1 ((s0.1++[(s1.1.set (yby s0.2) 0)]).length:Int)/\(Z.in64 (s0.2+1)/\(K0 ((s0.1++[(s1.1.set (yby s0.2) 0)]),(s0.2+1))))))))))/\((decide ((s0.2:Int)<(((1+(x.1.1.length:Int))+(x.1.2.1.length:Int))+x.1.2.2.1))=false)->Z.LoopP (X:=yZI) ((0,s0.1)) (fun s2 K2=>(((decide ((s2.1:Int)<(x.1.1.length:Int))=true)->(True/\(True/\(Z.in64 (s2.1+1)/\(True/\(True/\(True/\(True/\(((0:Int)<=s2.1/\(s2.1:Int)<(x.1.1.length:Int))/\(True/\(True/\(((0:Int)<=(s2.1+1)/\((s2.1+1):Int)<(s2.2.length:Int))/\(((0:Int)<=(s2.1+1)/\((s2.1+1):Int)<(s2.2.length:Int))/\(((0:Int)<=s2.1/\(s2.1:Int)<((s2.2.getD (yby (s2.1+1)) []).length:Int))/\(((0:Int)<=s2.1/\(s2.1:Int)<((s2.2.getD (yby (s2.1+1)) []).length:Int))/\(True/\(True/\(True/\(Z.in64 (s2.1+1)/\(True/\(True/\(True/\(((0:Int)<=s2.1/\(s2.1:Int)<(x.1.1.length:Int))/\(True/\(True/\(Z.in64 (-(x.1.1.getD (yby s2.1) (0,0)).1)/\(((0:Int)<=s2.1/\(s2.1:Int)<((mostT s2.2 (s2.1+1) s2.1 ((x.1.1.getD (yby s2.1) (0,0)).2)).length:Int))/\(((0:Int)<=s2.1/\(s2.1:Int)<((mostT s2.2 (s2.1+1) s2.1 ((x.1.1.getD (yby s2.1) (0,0)).2)).length:Int))/\(((0:Int)<=(s2.1+1)/\((s2.1+1):Int)<(((mostT s2.2 (s2.1+1) s2.1 ((x.1.1.getD (yby s2.1) (0,0)).2)).getD (yby s2.1) []).length:Int))/\(((0:Int)<=(s2.1+1)/\((s2.1+1):Int)<(((mostT s2.2 (s2.1+1) s2.1 ((x.1.1.getD (yby s2.1) (0,0)).2)).getD (yby s2.1) []).length:Int))/\(Z.in64 (s2.1+1)/\(K2 ((s2.1+1),(mostT (mostT s2.2 (s2.1+1) s2.1 ((x.1.1.getD (yby s2.1) (0,0)).2)) s2.1 (s2.1+1) (-(x.1.1.getD (yby s2.1) (0,0)).1)))))))))))))))))))))))))))))))))))/\((decide ((s2.1:Int)<(x.1.1.length:Int))=false)->Z.LoopP (X:=yZI) ((0,s2.2)) (fun s3 K3=>(((decide ((s3.1:Int)<(x.1.2.1.length:Int))=true)->((zbu (x.1,s3.1))/\(((0:Int)<=s3.1/\(s3.1:Int)<(x.1.2.1.length:Int))/\(((0:Int)<=(ref12u_Ref (x.1,s3.1))/\((ref12u_Ref (x.1,s3.1)):Int)<(s3.2.length:Int))/\(((0:Int)<=(ref12u_Ref (x.1,s3.1))/\((ref12u_Ref (x.1,s3.1)):Int)<(s3.2.length:Int))/\(((0:Int)<=0/\(0:Int)<((s3.2.getD (yby (ref12u_Ref (x.1,s3.1))) []).length:Int))/\(((0:Int)<=0/\(0:Int)<((s3.2.getD (yby (ref12u_Ref (x.1,s3.1))) []).length:Int))/\((zbu (x.1,s3.1))/\(((0:Int)<=s3.1/\(s3.1:Int)<(x.1.2.1.length:Int))/\(Z.in64 (-(x.1.2.1.getD (yby s3.1) (0,0)).1)/\(((0:Int)<=0/\(0:Int)<((mostT s3.2 (ref12u_Ref (x.1,s3.1)) 0 ((x.1.2.1.getD (yby s3.1) (0,0)).2)).length:Int))/\(((0:Int)<=0/\(0:Int)<((mostT s3.2 (ref12u_Ref (x.1,s3.1)) 0 ((x.1.2.1.getD (yby s3.1) (0,0)).2)).length:Int))/\(((0:Int)<=(ref12u_Ref (x.1,s3.1))/\((ref12u_Ref (x.1,s3.1)):Int)<(((mostT s3.2 (ref12u_Ref (x.1,s3.1)) 0 ((x.1.2.1.getD (yby s3.1) (0,0)).2)).getD (yby 0) []).length:Int))/\(((0:Int)<=(ref12u_Ref (x.1,s3.1))/\((ref12u_Ref (x.1,s3.1)):Int)<(((mostT s3.2 (ref12u_Ref (x.1,s3.1)) 0 ((x.1.2.1.getD (yby s3.1) (0,0)).2)).getD (yby 0) []).length:Int))/\(((decide ((0:Int)<s3.1)=true)->(Z.in64 (s3.1 - 1)/\((zbu (x.1,(s3.1 - 1)))/\((zbu (x.1,s3.1))/\(((0:Int)<=(ref12u_Ref (x.1,(s3.1 - 1)))/\((ref12u_Ref (x.1,(s3.1 - 1))):Int)<((mostT (mostT s3.2 (ref12u_Ref (x.1,s3.1)) 0 ((x.1.2.1.getD (yby s3.1) (0,0)).2)) 0 (ref12u_Ref (x.1,s3.1)) (-(x.1.2.1.getD (yby s3.1) (0,0)).1)).length:Int))/\(((0:Int)<=(ref12u_Ref (x.1,(s3.1 - 1)))/\((ref12u_Ref (x.1,(s3.1 - 1))):Int)<((mostT (mostT s3.2 (ref12u_Ref (x.1,s3.1)) 0 ((x.1.2.1.getD (yby s3.1) (0,0)).2)) 0 (ref12u_Ref (x.1,s3.1)) (-(x.1.2.1.getD (yby s3.1) (0,0)).1)).length:Int))/\(((0:Int)<=(ref12u_Ref (x.1,s3.1))/\((ref12u_Ref (x.1,s3.1)):Int)<(((mostT (mostT s3.2 (ref12u_Ref (x.1,s3.1)) 0 ((x.1.2.1.getD (yby s3.1) (0,0)).2)) 0 (ref12u_Ref (x.1,s3.1)) (-(x.1.2.1.getD (yby s3.1) (0,0)).1)).getD (yby (ref12u_Ref (x.1,(s3.1 - 1)))) []).length:Int))/\(((0:Int)<=(ref12u_Ref (x.1,s3.1))/\((ref12u_Ref (x.1,s3.1)):Int)<(((mostT (mostT s3.2 (ref12u_Ref (x.1,s3.1)) 0 ((x.1.2.1.getD (yby s3.1) (0,0)).2)) 0 (ref12u_Ref (x.1,s3.1)) (-(x.1.2.1.getD (yby s3.1) (0,0)).1)).getD (yby (ref12u_Ref (x.1,(s3.1 - 1)))) []).length:Int))/\(Z.in64 (s3.1+1)/\(K3 ((s3.1+1),(mostT (mostT (mostT s3.2 (ref12u_Ref (x.1,s3.1)) 0 ((x.1.2.1.getD (yby s3.1) (0,0)).2)) 0 (ref12u_Ref (x.1,s3.1)) (-(x.1.2.1.getD (yby s3.1) (0,0)).1)) (ref12u_Ref (x.1,(s3.1 - 1))) (ref12u_Ref (x.1,s3.1)) (-1)))))))))))))/\((decide ((0:Int)<s3.1)=false)->(Z.in64 (s3.1+1)/\(K3 ((s3.1+1),(mostT (mostT s3.2 (ref12u_Ref (x.1,s3.1)) 0 ((x.1.2.1.getD (yby s3.1) (0,0)).2)) 0 (ref12u_Ref (x.1,s3.1)) (-(x.1.2.1.getD (yby s3.1) (0,0)).1)))))))))))))))))))))/\((decide ((s3.1:Int)<(x.1.2.1.length:Int))=false)->Z.LoopP (X:=yZI) ((0,s3.2)) (fun s4 K4=>(((decide ((s4.1:Int)<x.1.2.2.1)=true)->(True/\(True/\(True/\((zbr (x.1,s4.1))/\(((0:Int)<=(ref12u_Sample (x.1,s4.1))/\((ref12u_Sample (x.1,s4.1)):Int)<(s4.2.length:Int))/\(((0:Int)<=(ref12u_Sample (x.1,s4.1))/\((ref12u_Sample (x.1,s4.1)):Int)<(s4.2.length:Int))/\(((0:Int)<=0/\(0:Int)<((s4.2.getD (yby (ref12u_Sample (x.1,s4.1))) []).length:Int))/\(((0:Int)<=0/\(0:Int)<((s4.2.getD (yby (ref12u_Sample (x.1,s4.1))) []).length:Int))/\(True/\(True/\(True/\((zbr (x.1,s4.1))/\(((0:Int)<=0/\(0:Int)<((mostT s4.2 (ref12u_Sample (x.1,s4.1)) 0 16777216).length:Int))/\(((0:Int)<=0/\(0:Int)<((mostT s4.2 (ref12u_Sample (x.1,s4.1)) 0 16777216).length:Int))/\(((0:Int)<=(ref12u_Sample (x.1,s4.1))/\((ref12u_Sample (x.1,s4.1)):Int)<(((mostT s4.2 (ref12u_Sample (x.1,s4.1)) 0 16777216).getD (yby 0) []).length:Int))/\(((0:Int)<=(ref12u_Sample (x.1,s4.1))/\((ref12u_Sample (x.1,s4.1)):Int)<(((mostT s4.2 (ref12u_Sample (x.1,s4.1)) 0 16777216).getD (yby 0) []).length:Int))/\(Z.in64 (s4.1+1)/\(K4 ((s4.1+1),(mostT (mostT s4.2 (ref12u_Sample (x.1,s4.1)) 0 16777216) 0 (ref12u_Sample (x.1,s4.1)) (-1))))))))))))))))))))))/\((decide ((s4.1:Int)<x.1.2.2.1)=false)->Z.LoopP (X:=yZI) ((0,s4.2)) (fun s5 K5=>(((decide ((s5.1:Int)<x.2)=true)->(((0:Int)<=s5.1/\(s5.1:Int)<(x.1.2.2.2.length:Int))/\((zhE (x.1,((x.1.2.2.2.getD (yby s5.1) (0,0,0,false)).2).1,(((x.1.2.2.2.getD (yby s5.1) (0,0,0,false)).2).2).1))/\((((((x.1.2.2.2.getD (yby s5.1) (0,0,0,false)).2).2).2=true)->(True/\(True/\(True/\(True/\(((0:Int)<=(zaI (x.1,((x.1.2.2.2.getD (yby s5.1) (0,0,0,false)).2).1,(((x.1.2.2.2.getD (yby s5.1) (0,0,0,false)).2).2).1))/\((zaI (x.1,((x.1.2.2.2.getD (yby s5.1) (0,0,0,false)).2).1,(((x.1.2.2.2.getD (yby s5.1) (0,0,0,false)).2).2).1)):Int)<(s5.2.length:Int))/\(((0:Int)<=(zaI (x.1,((x.1.2.2.2.getD (yby s5.1) (0,0,0,false)).2).1,(((x.1.2.2.2.getD (yby s5.1) (0,0,0,false)).2).2).1))/\((zaI (x.1,((x.1.2.2.2.getD (yby s5.1) (0,0,0,false)).2).1,(((x.1.2.2.2.getD (yby s5.1) (0,0,0,false)).2).2).1)):Int)<(s5.2.length:Int))/\(((0:Int)<=(x.1.2.2.2.getD (yby s5.1) (0,0,0,false)).1/\((x.1.2.2.2.getD (yby s5.1) (0,0,0,false)).1:Int)<((s5.2.getD (yby (zaI (x.1,((x.1.2.2.2.getD (yby s5.1) (0,0,0,false)).2).1,(((x.1.2.2.2.getD (yby s5.1) (0,0,0,false)).2).2).1))) []).length:Int))/\(((0:Int)<=(x.1.2.2.2.getD (yby s5.1) (0,0,0,false)).1/\((x.1.2.2.2.getD (yby s5.1) (0,0,0,false)).1:Int)<((s5.2.getD (yby (zaI (x.1,((x.1.2.2.2.getD (yby s5.1) (0,0,0,false)).2).1,(((x.1.2.2.2.getD (yby s5.1) (0,0,0,false)).2).2).1))) []).length:Int))/\(Z.in64 (s5.1+1)/\(K5 ((s5.1+1),(mostT s5.2 (zaI (x.1,((x.1.2.2.2.getD (yby s5.1) (0,0,0,false)).2).1,(((x.1.2.2.2.getD (yby s5.1) (0,0,0,false)).2).2).1)) ((x.1.2.2.2.getD (yby s5.1) (0,0,0,false)).1) 0)))))))))))))/\(((((x.1.2.2.2.getD (yby s5.1) (0,0,0,false)).2).2).2=false)->(True/\(True/\(True/\(True/\(((0:Int)<=(x.1.2.2.2.getD (yby s5.1) (0,0,0,false)).1/\((x.1.2.2.2.getD (yby s5.1) (0,0,0,false)).1:Int)<(s5.2.length:Int))/\(((0:Int)<=(x.1.2.2.2.getD (yby s5.1) (0,0,0,false)).1/\((x.1.2.2.2.getD (yby s5.1) (0,0,0,false)).1:Int)<(s5.2.length:Int))/\(((0:Int)<=(zaI (x.1,((x.1.2.2.2.getD (yby s5.1) (0,0,0,false)).2).1,(((x.1.2.2.2.getD (yby s5.1) (0,0,0,false)).2).2).1))/\((zaI (x.1,((x.1.2.2.2.getD (yby s5.1) (0,0,0,false)).2).1,(((x.1.2.2.2.getD (yby s5.1) (0,0,0,false)).2).2).1)):Int)<((s5.2.getD (yby ((x.1.2.2.2.getD (yby s5.1) (0,0,0,false)).1)) []).length:Int))/\(((0:Int)<=(zaI (x.1,((x.1.2.2.2.getD (yby s5.1) (0,0,0,false)).2).1,(((x.1.2.2.2.getD (yby s5.1) (0,0,0,false)).2).2).1))/\((zaI (x.1,((x.1.2.2.2.getD (yby s5.1) (0,0,0,false)).2).1,(((x.1.2.2.2.getD (yby s5.1) (0,0,0,false)).2).2).1)):Int)<((s5.2.getD (yby ((x.1.2.2.2.getD (yby s5.1) (0,0,0,false)).1)) []).length:Int))/\(Z.in64 (s5.1+1)/\(K5 ((s5.1+1),(mostT s5.2 ((x.1.2.2.2.getD (yby s5.1) (0,0,0,false)).1) (zaI (x.1,((x.1.2.2.2.getD (yby s5.1) (0,0,0,false)).2).1,(((x.1.2.2.2.getD (yby s5.1) (0,0,0,false)).2).2).1)) (-1))))))))))))))))))/\((decide ((s5.1:Int)<x.2)=false)->Z.LoopP (X:=yZI) ((0,s5.2)) (fun s6 K6=>(((decide ((s6.1:Int)<(((1+(x.1.1.length:Int))+(x.1.2.1.length:Int))+x.1.2.2.1))=true)->Z.LoopP (X:=yZI) ((0,s6.2)) (fun s7 K7=>(((decide ((s7.1:Int)<(((1+(x.1.1.length:Int))+(x.1.2.1.length:Int))+x.1.2.2.1))=true)->Z.LoopP (X:=yZI) ((0,s7.2)) (fun s8 K8=>(((decide ((s8.1:Int)<(((1+(x.1.1.length:Int))+(x.1.2.1.length:Int))+x.1.2.2.1))=true)->(((0:Int)<=s7.1/\(s7.1:Int)<(s8.2.length:Int))/\(((0:Int)<=s6.1/\(s6.1:Int)<((s8.2.getD (yby s7.1) []).length:Int))/\(((decide (((ent s8.2 s7.1 s6.1):Int)<1099511627776)=true)->((0:Int)<=s6.1/\(s6.1:Int)<(s8.2.length:Int)))/\(((decide (((ent s8.2 s7.1 s6.1):Int)<1099511627776)=true)->((0:Int)<=s8.1/\(s8.1:Int)<((s8.2.getD (yby s6.1) []).length:Int)))/\((((decide (((ent s8.2 s7.1 s6.1):Int)<1099511627776)&&decide (((ent s8.2 s6.1 s8.1):Int)<1099511627776))=true)->(((0:Int)<=s7.1/\(s7.1:Int)<(s8.2.length:Int))/\(((0:Int)<=s6.1/\(s6.1:Int)<((s8.2.getD (yby s7.1) []).length:Int))/\(((0:Int)<=s6.1/\(s6.1:Int)<(s8.2.length:Int))/\(((0:Int)<=s8.1/\(s8.1:Int)<((s8.2.getD (yby s6.1) []).length:Int))/\(Z.in64 ((ent s8.2 s7.1 s6.1)+(ent s8.2 s6.1 s8.1))/\(((0:Int)<=s7.1/\(s7.1:Int)<(s8.2.length:Int))/\(((0:Int)<=s7.1/\(s7.1:Int)<(s8.2.length:Int))/\(((0:Int)<=s8.1/\(s8.1:Int)<((s8.2.getD (yby s7.1) []).length:Int))/\(((0:Int)<=s8.1/\(s8.1:Int)<((s8.2.getD (yby s7.1) []).length:Int))/\(Z.in64 (s8.1+1)/\(K8 ((s8.1+1),(mostT s8.2 s7.1 s8.1 ((ent s8.2 s7.1 s6.1)+(ent s8.2 s6.1 s8.1))))))))))))))))/\(((decide (((ent s8.2 s7.1 s6.1):Int)<1099511627776)&&decide (((ent s8.2 s6.1 s8.1):Int)<1099511627776))=false)->(Z.in64 (s8.1+1)/\(K8 ((s8.1+1),s8.2))))))))))/\((decide ((s8.1:Int)<(((1+(x.1.1.length:Int))+(x.1.2.1.length:Int))+x.1.2.2.1))=false)->(Z.in64 (s7.1+1)/\(K7 ((s7.1+1),s8.2)))))))/\((decide ((s7.1:Int)<(((1+(x.1.1.length:Int))+(x.1.2.1.length:Int))+x.1.2.2.1))=false)->(Z.in64 (s6.1+1)/\(K6 ((s6.1+1),s7.2)))))))/\((decide ((s6.1:Int)<(((1+(x.1.1.length:Int))+(x.1.2.1.length:Int))+x.1.2.2.1))=false)->Z.LoopP (X:=Int) (0) (fun s9 K9=>(((decide ((s9:Int)<(((1+(x.1.1.length:Int))+(x.1.2.1.length:Int))+x.1.2.2.1))=true)->(((0:Int)<=s9/\(s9:Int)<(s6.2.length:Int))/\(((0:Int)<=s9/\(s9:Int)<((s6.2.getD (yby s9) []).length:Int))/\(((decide (((ent s6.2 s9 s9):Int)<0)=true)->((([],false):(Prod yZJ Bool))=(ref12u_TableOf x)))/\((decide (((ent s6.2 s9 s9):Int)<0)=false)->(Z.in64 (s9+1)/\(((s6.2:yZJ)=s6.2)/\(K9 (s9+1)))))))))/\((decide ((s9:Int)<(((1+(x.1.1.length:Int))+(x.1.2.1.length:Int))+x.1.2.2.1))=false)->(((s6.2,true):(Prod yZJ Bool))=(ref12u_TableOf x))))))))))))))))))))))))))
theorem e33 (x:Ds k33.args):vcFun cx33 f33 k33 x=V33 x:=by kernel_rfl
end Go.Fade
/-
 Chapter 12: the document's table: its condition.
-/
namespace Go.Fade
open Go Go.Sx
theorem zbD:TabsOk prog T4:=⟨by kernel_rfl,Go.Tt.maps_ok⟩
def initT (N i:Nat):List (List Int):=(yaf i).map fun a=>(yaa N free).set a 0
theorem znV (N i:Nat):initT N (i+1)=initT N i++[(yaa N free).set i 0]:=by simp [initT,List.range_succ]
theorem zmi (N i:Nat):(initT N i).length=i:=by simp [initT]
theorem init_en {N a b:Nat} (ha:a<N) (hb:b<N):en (initT N N) a b=if a=b then 0 else free:=by
 unfold en initT
 rw [zbU _ _ ha]
 by_cases e:a=b
 ·subst e
  rw [if_pos rfl,ybd,yei (by simpa using ha)];rfl
 ·rw [if_neg e,ybd,ybY e]
  simp [hb]
theorem zoG {f:Fading} (m:Nat) (O:OkC f):Base f m (initT (sizeN f) (sizeN f)):=by
 refine ⟨⟨zmi _ _,fun a ha=>by unfold initT;rw [zbU _ _ ha];simp⟩,fun a ha=>by rw [init_en ha ha,if_pos rfl];omega,fun a b ha hb=>?_,fun a b ha hb=>?_,fun a b ha hb=>?_,fun y hy a b ha hb=>?_⟩
 ·rw [init_en ha hb];split<;>simp only [free]<;>omega
 ·rw [init_en ha hb];split
  ·intro _;omega
  ·intro h;exact absurd h (Int.lt_irrefl _)
 ·rw [init_en ha hb]
  have:=u_bd O a
  have:=v_bd O b
  split
  ·rename_i e;subst e
   have:=u_le_v O a;omega
  ·simp only [free];omega
 ·rw [init_en ha hb]
  have h1:=zji (cut_ok O) hy (zhe (f:=f) ha)
  have h2:=zji (cut_ok O) hy (zhe (f:=f) hb)
  split
  ·rename_i e;subst e;omega
  ·simp only [free];omega
theorem ix {N:Nat} {t:List (List Int)} (h:Sq N t) {a:Nat} (ha:a<N):(0:Int)<=(a:Int)/\(a:Int)<(t.length:Int):=by rw [h.len];omega
theorem ixr {N:Nat} {t:List (List Int)} (h:Sq N t) {a c:Nat} (hc:c<N) (ha:a<N):(0:Int)<=(a:Int)/\(a:Int)<((t.getD c []).length:Int):=by rw [h.row c hc];omega
theorem v33 (x:Fading × Int) (hp:k33.pre x):V33 x:=by
 obtain ⟨f,mI⟩:=x
 obtain ⟨hc,hm0,hm1⟩:cardsB f=true/\0<=mI/\mI<=(f.2.2.2.length:Int):=hp
 have O:=cards_iff.1 hc
 obtain ⟨m,rfl⟩:∃ m:Nat,mI=(m:Int):=⟨mI.toNat,by omega⟩
 have hm:m<=f.2.2.2.length:=by omega
 have nm:=O.nm
 have nr:=O.nr
 have ns:=O.ns
 have hN:(((1+(f.1.length:Int))+(f.2.1.length:Int))+f.2.2.1)=(sizeN f:Int):=by unfold sizeN;omega
 have hN27:=size_le O
 have hNM:f.1.length<sizeN f:=by unfold sizeN;omega
 unfold V33
 dsimp only
 rw [hN]
 refine ⟨by simp only [Z.in64];omega,by simp only [Z.in64];omega,by simp only [Z.in64];omega,fun s=>s.2<=(sizeN f:Int)/\∃ i:Nat,s=(initT (sizeN f) i,(i:Int)),fun s=>((sizeN f:Int) - s.2).toNat,⟨by simp only;omega,0,rfl⟩,?_⟩
 rintro _ ⟨hi,i,rfl⟩
 have hi:(i:Int)<=(sizeN f:Int):=hi
 refine ⟨fun h=>?_,fun h=>?_⟩
 ·have h:=of_decide_eq_true h
  refine ⟨fun s=>s.2<=(sizeN f:Int)/\∃ j:Nat,s=(yaa j free,(j:Int)),fun s=>((sizeN f:Int) - s.2).toNat,⟨by simp only;omega,0,rfl⟩,?_⟩
  rintro _ ⟨hj,j,rfl⟩
  have hj:(j:Int)<=(sizeN f:Int):=hj
  refine ⟨fun h'=>?_,fun h'=>?_⟩
  ·have h':=of_decide_eq_true h'
   have h':(j:Int)<(sizeN f:Int):=h'
   refine ⟨zfG (by omega) (by omega) (by simp;omega),by simp only [Z.in64];omega,rfl,⟨by simp only;omega,j+1,?_⟩,by simp only;omega⟩
   simp only [List.replicate_succ',ybb]
   exact ⟨rfl,by omega⟩
  ·have h':=of_decide_eq_false h'
   have e:j=sizeN f:=by omega
   subst e
   have h:(i:Int)<(sizeN f:Int):=h
   refine ⟨⟨by simp only;omega,by simp;omega⟩,zfG (by omega) (by omega) (by rw [List.length_append,zmi];simp;omega),by simp only [Z.in64];omega,⟨by simp only;omega,i+1,?_⟩,by simp only;omega⟩
   rw [znV]
   simp
 have h:=of_decide_eq_false h
 have e:i=sizeN f:=by omega
 subst e
 clear h hi
 have B0:=zoG m O
 refine ⟨fun s=>Base f m s.2/\∃ j:Nat,s.1=(j:Int)/\j<=f.1.length/\Edges f j 0 0 0 s.2,fun s=>((f.1.length:Int) - s.1).toNat,⟨B0,0,rfl,by omega,⟨fun j hj=>by omega,fun j hj=>by omega,fun j hj=>by omega,fun j hj=>by omega,fun j hj=>by omega⟩⟩,?_⟩
 rintro ⟨_,t⟩ ⟨hB,j,rfl,hj,hE⟩
 have hB:Base f m t:=hB
 have hE:Edges f j 0 0 0 t:=hE
 dsimp only
 refine ⟨fun h=>?_,fun h=>?_⟩
 ·have h:=of_decide_eq_true h
  rw [show (j:Int)+1=((j+1:Nat):Int) from rfl]
  simp only [ydt]
  have h:(j:Int)<(f.1.length:Int):=h
  have hv:=O.months _ (zao f.1 (0,0) j (by omega))
  obtain ⟨b1,b2⟩:=zmZ O hB (i:=j) (by omega)
  have s1:=hB.sq
  have s2:=sq_most s1 (a:=j+1) (b:=j) (f.1.getD j (0,0)).2
  have a1:j<sizeN f:=by omega
  have a2:j+1<sizeN f:=by omega
  have z1:Z.in64 ((j+1:Nat):Int):=by simp only [Z.in64];omega
  have c1:(0:Int)<=(j:Int)/\(j:Int)<(f.1.length:Int):=by omega
  exact ⟨trivial,trivial,z1,trivial,trivial,trivial,trivial,c1,trivial,trivial,ix s1 a2,ix s1 a2,ixr s1 a2 a1,ixr s1 a2 a1,trivial,trivial,trivial,z1,trivial,trivial,trivial,c1,trivial,trivial,by simp only [Z.in64];omega,
   ix s2 a1,ix s2 a1,ixr s2 a1 a2,ixr s2 a1 a2,z1,⟨b1,j+1,rfl,by omega,b2 hE⟩,by omega⟩
 have h:=of_decide_eq_false h
 have h:¬ (j:Int)<(f.1.length:Int):=h
 have e:j=f.1.length:=by omega
 subst e
 clear h hj B0
 refine ⟨fun s=>Base f m s.2/\∃ j:Nat,s.1=(j:Int)/\j<=f.2.1.length/\Edges f f.1.length j 0 0 s.2,fun s=>((f.2.1.length:Int) - s.1).toNat,⟨hB,0,rfl,by omega,hE⟩,?_⟩
 clear hB hE
 rintro ⟨_,t⟩ ⟨hB,j,rfl,hj,hE⟩
 have hB:Base f m t:=hB
 have hE:Edges f f.1.length j 0 0 t:=hE
 dsimp only
 refine ⟨fun h=>?_,fun h=>?_⟩
 ·have h:=of_decide_eq_true h
  have h:(j:Int)<(f.2.1.length:Int):=h
  have hv:(1<=(f.2.1.getD j (((0:Nat):Int),((0:Nat):Int))).1/\_)/\(f.2.1.getD j (((0:Nat):Int),((0:Nat):Int))).2<=_:=O.refs _ (zao f.2.1 (0,0) j (by omega))
  have r0:ref12u_Ref (f,(j:Int))=((1+f.1.length+j:Nat):Int):=by show (1+(f.1.length:Int))+(j:Int)=_;omega
  rw [show (0:Int)=((0:Nat):Int) from rfl,r0,show (j:Int)+1=((j+1:Nat):Int) from rfl]
  simp only [ydt]
  obtain ⟨b1,b2⟩:=zoP O hB (k:=j) (by omega) rfl
  have b2:=b2 hE
  have s1:=hB.sq
  have s2:=sq_most s1 (a:=1+f.1.length+j) (b:=0) (f.2.1.getD j (0,0)).2
  have a1:1+f.1.length+j<sizeN f:=by unfold sizeN;omega
  have a0:0<sizeN f:=by omega
  have z1:Z.in64 ((j+1:Nat):Int):=by simp only [Z.in64];omega
  have c1:((0:Nat):Int)<=(j:Int)/\(j:Int)<(f.2.1.length:Int):=by omega
  have p1:zbu (f,(j:Int)):=⟨by show f.1.length<=100;omega,by show -1000<=(j:Int);omega,by show (j:Int)<=1000;omega⟩
  refine ⟨p1,c1,ix s1 a1,ix s1 a1,ixr s1 a1 a0,ixr s1 a1 a0,p1,c1,by simp only [Z.in64];omega,ix s2 a0,ix s2 a0,ixr s2 a0 a1,ixr s2 a0 a1,fun h0=>?_,fun h0=>⟨z1,⟨b1,j+1,rfl,by omega,b2.2 ?_⟩,by omega⟩⟩
  ·have h0:=of_decide_eq_true h0
   have h0:0<j:=by omega
   obtain ⟨b3,b4⟩:=b2.1 h0 _ rfl
   have r1:ref12u_Ref (f,(j:Int) - 1)=((1+f.1.length+(j - 1):Nat):Int):=by show (1+(f.1.length:Int))+((j:Int) - 1)=_;omega
   rw [r1]
   simp only [ydt]
   have a3:1+f.1.length+(j - 1)<sizeN f:=by omega
   have s3:=b1.sq
   exact ⟨by simp only [Z.in64];omega,⟨by show f.1.length<=100;omega,by show -1000<=(j:Int) - 1;omega,by show (j:Int) - 1<=1000;omega⟩,p1,ix s3 a3,ix s3 a3,ixr s3 a3 a1,ixr s3 a3 a1,z1,⟨b3,j+1,rfl,by omega,b4⟩,by omega⟩
  ·have h0:=of_decide_eq_false h0
   omega
 have h:=of_decide_eq_false h
 have h:¬ (j:Int)<(f.2.1.length:Int):=h
 have e:j=f.2.1.length:=by omega
 subst e
 clear h hj
 refine ⟨fun s=>Base f m s.2/\∃ j:Nat,s.1=(j:Int)/\j<=f.2.2.1.toNat/\Edges f f.1.length f.2.1.length j 0 s.2,fun s=>(f.2.2.1 - s.1).toNat,⟨hB,0,rfl,by omega,hE⟩,?_⟩
 clear hB hE
 rintro ⟨_,t⟩ ⟨hB,j,rfl,hj,hE⟩
 have hB:Base f m t:=hB
 have hE:Edges f f.1.length f.2.1.length j 0 t:=hE
 dsimp only
 refine ⟨fun h=>?_,fun h=>?_⟩
 ·have h:=of_decide_eq_true h
  have h:(j:Int)<f.2.2.1:=h
  have r0:ref12u_Sample (f,(j:Int))=((1+f.1.length+f.2.1.length+j:Nat):Int):=by show ((1+(f.1.length:Int))+(f.2.1.length:Int))+(j:Int)=_;omega
  rw [show (0:Int)=((0:Nat):Int) from rfl,r0,show (j:Int)+1=((j+1:Nat):Int) from rfl]
  simp only [ydt]
  obtain ⟨b1,b2⟩:=zlm O hB (k:=j) (by omega) rfl
  have s1:=hB.sq
  have s2:=sq_most s1 (a:=1+f.1.length+f.2.1.length+j) (b:=0) 16777216
  have a1:1+f.1.length+f.2.1.length+j<sizeN f:=by unfold sizeN;omega
  have a0:0<sizeN f:=by omega
  have z1:Z.in64 ((j+1:Nat):Int):=by simp only [Z.in64];omega
  have p1:zbr (f,(j:Int)):=⟨⟨by show f.1.length<=100;omega,by show f.2.1.length<=100;omega⟩,by show -1000<=(j:Int);omega,by show (j:Int)<=1000;omega⟩
  exact ⟨trivial,trivial,trivial,p1,ix s1 a1,ix s1 a1,ixr s1 a1 a0,ixr s1 a1 a0,trivial,trivial,trivial,p1,ix s2 a0,ix s2 a0,ixr s2 a0 a1,ixr s2 a0 a1,z1,⟨b1,j+1,rfl,by omega,b2 hE⟩,by omega⟩
 have h:=of_decide_eq_false h
 have h:¬ (j:Int)<f.2.2.1:=h
 have e:j=f.2.2.1.toNat:=by omega
 subst e
 clear h hj
 refine ⟨fun s=>Base f m s.2/\∃ j:Nat,s.1=(j:Int)/\j<=m/\Edges f f.1.length f.2.1.length f.2.2.1.toNat j s.2,fun s=>((m:Int) - s.1).toNat,⟨hB,0,rfl,by omega,hE⟩,?_⟩
 clear hB hE
 rintro ⟨_,t⟩ ⟨hB,j,rfl,hj,hE⟩
 have hB:Base f m t:=hB
 have hE:Edges f f.1.length f.2.1.length f.2.2.1.toNat j t:=hE
 dsimp only
 refine ⟨fun h=>?_,fun h=>?_⟩
 ·have h:=of_decide_eq_true h
  have h:(j:Int)<(m:Int):=h
  simp only [ydt]
  obtain ⟨C,hC⟩:∃ C,C=f.2.2.2.getD j (0,0,0,false):=⟨_,rfl⟩
  rw [<-hC]
  have hCm:C∈f.2.2.2:=by rw [hC];exact zao _ _ j (by omega)
  have hw:=(O.checks C hCm).2
  obtain ⟨n,mo,e1,e2,n1,n2,k1,k2⟩:=znp O hB (c:=j) (by omega) hm hC
  rw [e1,e2,show (j:Int)+1=((j+1:Nat):Int) from rfl]
  simp only [ydt]
  have s1:=hB.sq
  have z1:Z.in64 ((j+1:Nat):Int):=by have:=O.nc;simp only [Z.in64];omega
  refine ⟨by omega,⟨⟨by show f.1.length<=100;omega,by show f.2.1.length<=100;omega⟩,by show -1000<=C.2.2.1;omega,by show C.2.2.1<=1000;omega⟩,fun hf=>?_,fun hf=>?_⟩
  ·obtain ⟨b1,b2⟩:=k1 hf
   exact ⟨trivial,trivial,trivial,trivial,ix s1 n1,ix s1 n1,ixr s1 n1 n2,ixr s1 n1 n2,z1,⟨b1,j+1,rfl,by omega,b2 hE⟩,by omega⟩
  ·obtain ⟨b1,b2⟩:=k2 hf
   exact ⟨trivial,trivial,trivial,trivial,ix s1 n2,ix s1 n2,ixr s1 n2 n1,ixr s1 n2 n1,z1,⟨b1,j+1,rfl,by omega,b2 hE⟩,by omega⟩
 have h:=of_decide_eq_false h
 have h:¬ (j:Int)<(m:Int):=h
 have e:m=j:=by omega
 subst e
 clear h hj
 have hM:=zpd O hB hE
 clear hB hE
 refine ⟨fun s=>∃ k:Nat,s.1=(k:Int)/\k<=sizeN f/\Mid f m k s.2,fun s=>((sizeN f:Int) - s.1).toNat,⟨0,rfl,by omega,hM⟩,?_⟩
 clear hM
 rintro ⟨_,t⟩ ⟨k,rfl,hk,hM⟩
 have hM:Mid f m k t:=hM
 dsimp only
 refine ⟨fun h=>?_,fun h=>?_⟩
 ·have h:=of_decide_eq_true h
  have hk:k<sizeN f:=by omega
  clear h
  have lb:=low_bd O hk
  have zk:Z.in64 ((k:Int)+1):=by simp only [Z.in64];omega
  have kc:((k:Nat):Int)+1=((k+1:Nat):Int):=rfl
  have l63:∀ {n:Nat},n<sizeN f->Z.in64 ((n:Int)+1):=fun {n} hn=>by simp only [Z.in64];omega
  rcases low_k hM hk with h0 | h0
  ·refine ⟨fun s=>∃ a:Nat,s.1=(a:Int)/\a<=sizeN f/\Sq (sizeN f) s.2/\∀ c d,c<sizeN f->d<sizeN f->en s.2 c d=if c<a then upd t k c d else en t c d,fun s=>((sizeN f:Int) - s.1).toNat,
    ⟨0,rfl,by omega,hM.sq,fun c d _ _=>by rw [if_neg (by omega)]⟩,?_⟩
   rintro ⟨_,s⟩ ⟨a,rfl,ha,hS,hE⟩
   have hS:Sq (sizeN f) s:=hS
   dsimp only at hE ⊢
   refine ⟨fun h=>?_,fun h=>?_⟩
   ·have h:=of_decide_eq_true h
    have ha':a<sizeN f:=by omega
    refine ⟨fun s=>∃ b:Nat,s.1=(b:Int)/\b<=sizeN f/\Sq (sizeN f) s.2/\∀ c d,c<sizeN f->d<sizeN f->en s.2 c d=if c<a\/(c=a/\d<b) then upd t k c d else en t c d,fun s=>((sizeN f:Int) - s.1).toNat,
     ⟨0,rfl,by omega,hS,fun c d hc hd=>by rw [hE c d hc hd];by_cases e:c<a<;>simp [e]⟩,?_⟩
    clear hS hE
    rintro ⟨_,s⟩ ⟨b,rfl,hb,hS,hE⟩
    have hS:Sq (sizeN f) s:=hS
    dsimp only at hE ⊢
    refine ⟨fun h'=>?_,fun h'=>?_⟩
    ·have h':=of_decide_eq_true h'
     have hb':b<sizeN f:=by omega
     have e1:en s a k=en t a k:=by
      rw [hE a k ha' hk];split
      ·exact upd_col h0 a
      ·rfl
     have e2:en s k b=en t k b:=by
      rw [hE k b hk hb'];split
      ·exact upd_row h0 b
      ·rfl
     have e3:en s a b=en t a b:=by rw [hE a b ha' hb',if_neg (by omega)]
     have t1:=hM.top a k ha' hk
     have t2:=hM.top k b hk hb'
     have g1:=hM.lowM a k ha' hk
     have g2:=hM.lowM k b hk hb'
     simp only [ent_en,e1,e2,ydt]
     refine ⟨ix hS ha',ixr hS ha' hk,fun _=>ix hS hk,fun _=>ixr hS hk hb',fun hf=>?_,fun hf=>⟨l63 hb',⟨b+1,rfl,by omega,hS,fun c d hc hd=>?_⟩,by omega⟩⟩
     ·simp only [yac,decide_eq_true_eq] at hf
      obtain ⟨f1,f2⟩:=hf
      have f1:en s a k<(1099511627776:Int):=by first | exact of_decide_eq_true f1 | (rw [e1];exact f1)
      have f2:en s k b<(1099511627776:Int):=by first | exact of_decide_eq_true f2 | (rw [e2];exact f2)
      refine ⟨ix hS ha',ixr hS ha' hk,ix hS hk,ixr hS hk hb',by simp only [Z.in64];omega,ix hS ha',ix hS ha',ixr hS ha' hb',ixr hS ha' hb',l63 hb',⟨b+1,rfl,by omega,sq_most hS _,fun c d hc hd=>?_⟩,by omega⟩
      rw [en_most hS ha' hb']
      by_cases e:c=a/\d=b
      ·rw [if_pos e,e.1,e.2,if_pos (by omega),e3]
       unfold upd
       rw [e1] at f1;rw [e2] at f2
       rw [if_pos ⟨f1,f2⟩]
      ·rw [if_neg e,hE c d hc hd]
       by_cases e':c<a\/c=a/\d<b
       ·rw [if_pos e',if_pos (by omega)]
       ·rw [if_neg e',if_neg (by omega)]
     ·rw [hE c d hc hd]
      by_cases e:c=a/\d=b
      ·rw [e.1,e.2,if_neg (by omega),if_pos (by omega)]
       unfold upd
       rw [if_neg]
       intro hh
       rw [decide_eq_true hh.1,decide_eq_true hh.2] at hf
       cases hf
      ·by_cases e':c<a\/c=a/\d<b
       ·rw [if_pos e',if_pos (by omega)]
       ·rw [if_neg e',if_neg (by omega)]
    ·have h':=of_decide_eq_false h'
     have e:b=sizeN f:=by omega
     subst e
     refine ⟨l63 ha',⟨a+1,rfl,by omega,hS,fun c d hc hd=>?_⟩,by omega⟩
     rw [hE c d hc hd]
     by_cases e:c<a+1
     ·rw [if_pos e,if_pos (by omega)]
     ·rw [if_neg e,if_neg (by omega)]
   ·have h:=of_decide_eq_false h
    have e:a=sizeN f:=by omega
    subst e
    refine ⟨zk,⟨k+1,rfl,by omega,zlC O hM hk h0 hS fun c d hc hd=>?_⟩,by omega⟩
    rw [hE c d hc hd,if_pos hc]
  ·obtain ⟨L,hL⟩:∃ L,L=lowB f k:=⟨_,rfl⟩
   rw [<-hL] at lb
   have P0:∀ c d,c<sizeN f->d<sizeN f->-L<=en t c d:=fun c d hc hd=>by rw [hL];exact hM.lowM c d hc hd
   refine ⟨fun s=>∃ a:Nat,s.1=(a:Int)/\a<=sizeN f/\Sq (sizeN f) s.2/\∀ c d,c<sizeN f->d<sizeN f->(en s.2 c d<=en t c d/\(¬ c<a->-L<=en s.2 c d))/\(c<=k->d<=k->-(2*L)<=en s.2 c d)/\(c<=k\/d<=k->-(3*L)<=en s.2 c d)/\-(6*L)<=en s.2 c d,fun s=>((sizeN f:Int) - s.1).toNat,
    ⟨0,rfl,by omega,hM.sq,fun c d hc hd=>by have:=P0 c d hc hd;dsimp only;omega⟩,?_⟩
   rintro ⟨_,s⟩ ⟨a,rfl,ha,hS,hE⟩
   have hS:Sq (sizeN f) s:=hS
   dsimp only at hE ⊢
   refine ⟨fun h=>?_,fun h=>?_⟩
   ·have h:=of_decide_eq_true h
    have ha':a<sizeN f:=by omega
    refine ⟨fun s=>∃ b:Nat,s.1=(b:Int)/\b<=sizeN f/\Sq (sizeN f) s.2/\∀ c d,c<sizeN f->d<sizeN f->(en s.2 c d<=en t c d/\(¬ (c<a\/(c=a/\d<b))->-L<=en s.2 c d))/\(c<=k->d<=k->-(2*L)<=en s.2 c d)/\(c<=k\/d<=k->-(3*L)<=en s.2 c d)/\-(6*L)<=en s.2 c d,fun s=>((sizeN f:Int) - s.1).toNat,
     ⟨0,rfl,by omega,hS,fun c d hc hd=>by
      obtain ⟨⟨k1,k2⟩,k3⟩:=hE c d hc hd
      exact ⟨⟨k1,fun hn=>k2 (by omega)⟩,k3⟩⟩,?_⟩
    clear hS hE
    rintro ⟨_,s⟩ ⟨b,rfl,hb,hS,hE⟩
    have hS:Sq (sizeN f) s:=hS
    dsimp only at hE ⊢
    refine ⟨fun h'=>?_,fun h'=>?_⟩
    ·have h':=of_decide_eq_true h'
     have hb':b<sizeN f:=by omega
     obtain ⟨⟨p1,p2⟩,p3,p4,p5⟩:=hE a k ha' hk
     obtain ⟨⟨q1,q2⟩,q3,q4,q5⟩:=hE k b hk hb'
     obtain ⟨⟨r1,r2⟩,r3,r4,r5⟩:=hE a b ha' hb'
     have p4:=p4 (.inr (yag k))
     have q4:=q4 (.inl (yag k))
     have r2:=r2 (by omega)
     simp only [ent_en,ydt]
     refine ⟨ix hS ha',ixr hS ha' hk,fun _=>ix hS hk,fun _=>ixr hS hk hb',fun hf=>?_,fun hf=>⟨l63 hb',⟨b+1,rfl,by omega,hS,fun c d hc hd=>?_⟩,by omega⟩⟩
     ·simp only [yac,decide_eq_true_eq] at hf
      obtain ⟨f1,f2⟩:=hf
      have f1:en s a k<(1099511627776:Int):=by first | exact of_decide_eq_true f1 | (rw [e1];exact f1)
      have f2:en s k b<(1099511627776:Int):=by first | exact of_decide_eq_true f2 | (rw [e2];exact f2)
      refine ⟨ix hS ha',ixr hS ha' hk,ix hS hk,ixr hS hk hb',by simp only [Z.in64];omega,ix hS ha',ix hS ha',ixr hS ha' hb',ixr hS ha' hb',l63 hb',⟨b+1,rfl,by omega,sq_most hS _,fun c d hc hd=>?_⟩,by omega⟩
      rw [en_most hS ha' hb']
      by_cases e:c=a/\d=b
      ·rw [if_pos e,e.1,e.2]
       refine ⟨⟨by omega,fun hn=>by omega⟩,fun g1 g2=>?_,fun g1=>?_,by omega⟩
       ·have:=p2 (by omega)
        have:=q2 (by omega)
        omega
       ·rcases g1 with g1 | g1
        ·have:=p3 g1 (yag k)
         have:=q2 (by omega)
         omega
        ·have:=p2 (by omega)
         have:=q3 (yag k) g1
         omega
      ·rw [if_neg e]
       obtain ⟨⟨k1,k2⟩,k3⟩:=hE c d hc hd
       exact ⟨⟨k1,fun hn=>k2 (by omega)⟩,k3⟩
     ·obtain ⟨⟨k1,k2⟩,k3⟩:=hE c d hc hd
      exact ⟨⟨k1,fun hn=>k2 (by omega)⟩,k3⟩
    ·have h':=of_decide_eq_false h'
     have e:b=sizeN f:=by omega
     subst e
     refine ⟨l63 ha',⟨a+1,rfl,by omega,hS,fun c d hc hd=>?_⟩,by omega⟩
     obtain ⟨⟨k1,k2⟩,k3⟩:=hE c d hc hd
     exact ⟨⟨k1,fun hn=>k2 (by omega)⟩,k3⟩
   ·have h:=of_decide_eq_false h
    have e:a=sizeN f:=by omega
    subst e
    refine ⟨zk,⟨k+1,rfl,by omega,znS O hM hk h0 hS (fun c d hc hd=>(hE c d hc hd).1.1) fun c d hc hd=>?_⟩,by omega⟩
    rw [<-hL];exact (hE c d hc hd).2.2.2
 have h:=of_decide_eq_false h
 have e:k=sizeN f:=by omega
 subst e
 clear h hk
 have hend:=mid_end O hm hM
 refine ⟨fun s=>∃ a:Nat,s=(a:Int)/\a<=sizeN f/\∀ c,c<a->0<=en t c c,fun s=>((sizeN f:Int) - s).toNat,⟨0,rfl,by omega,fun c hc=>by omega⟩,?_⟩
 rintro _ ⟨a,rfl,ha,hd⟩
 refine ⟨fun h=>?_,fun h=>?_⟩
 ·have h:=of_decide_eq_true h
  have ha':a<sizeN f:=by omega
  rw [show (a:Int)+1=((a+1:Nat):Int) from rfl]
  refine ⟨ix hM.sq ha',ixr hM.sq ha' ha',fun hn=>?_,fun hn=>⟨by simp only [Z.in64];omega,rfl,⟨a+1,rfl,by omega,fun c hc=>?_⟩,by show ((sizeN f:Int) - ((a+1:Nat):Int)).toNat<((sizeN f:Int) - (a:Int)).toNat;omega⟩⟩
  ·have hn:en t a a<0:=of_decide_eq_true hn
   rcases hend with ⟨h1,_⟩ | ⟨_,h2⟩
   ·have:=h1 a ha';omega
   ·exact h2.symm
  ·have hn:¬ en t a a<0:=of_decide_eq_false hn
   by_cases e:c=a
   ·subst e;omega
   ·exact hd c (by omega)
 ·have h:=of_decide_eq_false h
  have e:a=sizeN f:=by omega
  subst e
  rcases hend with ⟨_,h2⟩ | ⟨⟨c,hc,hn⟩,_⟩
  ·exact h2.symm
  ·have:=hd c hc;omega
end Go.Fade
/-
 Chapter 12: the document's functions: their conditions;FadeSpans,FadeClashes.
-/
namespace Go.Fade
open Go Go.Sx
theorem v34 (x:Fading × Int) (hp:k34.pre x):V34 x:=by
 obtain ⟨h1,h2,h3⟩:x.1.1.length<=100/\-1000<=x.2/\x.2<=1000:=hp
 exact ⟨by simp only [Z.in64];omega,by simp only [Z.in64];omega,rfl⟩
theorem v35 (x:Fading × Int) (hp:k35.pre x):V35 x:=by
 obtain ⟨⟨h0,h1⟩,h2,h3⟩:(x.1.1.length<=100/\x.1.2.1.length<=100)/\-1000<=x.2/\x.2<=1000:=hp
 exact ⟨by simp only [Z.in64];omega,by simp only [Z.in64];omega,by simp only [Z.in64];omega,rfl⟩
theorem v99 (x:Fading × Int × Int) (hp:k99.pre x):V99 x:=by
 obtain ⟨⟨h0,h1⟩,h2,h3⟩:(x.1.1.length<=100/\x.1.2.1.length<=100)/\-1000<=x.2.2/\x.2.2<=1000:=hp
 refine ⟨fun h=>⟨⟨h0,h2,h3⟩,?_⟩,fun h=>⟨⟨⟨h0,h1⟩,h2,h3⟩,?_⟩⟩<;>rw [zaI,h]<;>rfl
section
variable {f:Fading}
theorem cut_all:cutF f f.2.2.2.length=f:=by
 unfold cutF
 rw [List.take_length]
theorem open_cards (h:cardsB f=true) (v:Bool):openV f v=cond (!v) ((none:Option Bds),(2:Int)) (match enterL noBounds (allL f) with | none=>((none:Option Bds),(6:Int)) | some b=>(some b,(0:Int))):=by
 unfold openV;rw [h];rfl
theorem tableP (h:cardsB f=true):zcY (f,(f.2.2.2.length:Int)):=⟨h,Int.natCast_nonneg _,ydB _⟩
theorem ent_tab {b:Bds} {a c:Nat} (ha:a<sizeN f) (hc:c<sizeN f):ent (tabOf f b) (a:Int) (c:Int)=gt b (ptN f a) (ptN f c):=en_tab b ha hc
end
end Go.Fade
/-
 Chapter 12: FadeGrades: its condition.
-/
namespace Go.Fade
open Go Go.Sx
theorem zgp:∀ (R:Nat) (p:Nat->Prop),(∀ k,k+1<R->p (k+1)->p k)->∃ L,L<=R/\∀ k,k<R->(p k↔k<L)
 | 0,_,_=>⟨0,yag 0,fun k hk=>by omega⟩
 | R+1,p,h=>by
  obtain ⟨L,h1,h2⟩:=zgp R p fun k hk=>h k (by omega)
  by_cases hp:p R
  ·refine ⟨R+1,yag _,fun k hk=>⟨fun _=>hk,fun _=>?_⟩⟩
   have down:∀ d,d<=R->p (R - d):=by
    intro d
    induction d with
    | zero=>intro _;exact hp
    | succ d ih =>
     intro hd
     have:=h (R - (d+1)) (by omega) (by rw [show R - (d+1)+1=R - d by omega];exact ih (by omega))
     exact this
   have:=down (R - k) (by omega)
   rw [show R - (R - k)=k by omega] at this
   exact this
  ·refine ⟨L,by omega,fun k hk=>?_⟩
   by_cases e:k=R
   ·subst e;exact ⟨fun h=>absurd h hp,fun h=>by omega⟩
   ·exact h2 k (by omega)
section
variable {f:Fading} {b:Bds}
theorem go_thr {o:Int} {L H R:Nat} (h1:∀ k:Nat,k<R->(aboveV (some b) (13+(k:Int)) o<=0↔k<L)) (h2:∀ k:Nat,k<R->(0<=aboveV (some b) o (13+(k:Int))↔k<H)) (hL:L<=R) (hH:H<=R) :
  ∀ (n k:Nat) (s:Span),k+n=R->gradeGo (some b) o n (k:Int) s=(s.1+((L:Int) - (min L k:Nat)),s.2+((H:Int) - (min H k:Nat)))
 | 0,k,s,e=>by
  have e1:min L k=L:=by omega
  have e2:min H k=H:=by omega
  rw [gradeGo,e1,e2];simp
 | n+1,k,s,e=>by
  have ih:=go_thr h1 h2 hL hH n (k+1) (s.1+cond (decide (aboveV (some b) (13+(k:Int)) o<=0)) 1 0,s.2+cond (decide (0<=aboveV (some b) o (13+(k:Int)))) 1 0) (by omega)
  rw [gradeGo]
  rw [show ((k:Int)+1)=((k+1:Nat):Int) from rfl,ih]
  have a1:=h1 k (by omega)
  have a2:=h2 k (by omega)
  simp only [ybb]
  constructor
  ·by_cases c:k<L
   ·rw [decide_eq_true (a1.2 c),cond_true];omega
   ·rw [decide_eq_false (fun hh=>c (a1.1 hh)),cond_false];omega
  ·by_cases c:k<H
   ·rw [decide_eq_true (a2.2 c),cond_true];omega
   ·rw [decide_eq_false (fun hh=>c (a2.1 hh)),cond_false];omega
structure Told (f:Fading) (b:Bds):Prop where
 mono:∀ i j,i<=j->j<=f.1.length->gt b i j<=0
 refs:∀ k,k+1<f.2.1.length->gt b (13+k) (13+(k+1))<=-1
 chk:∀ c∈f.2.2.2,cond c.2.2.2 (gt b (ptOf c.2.1 c.2.2.1) c.1.toNat<=0) (gt b c.1.toNat (ptOf c.2.1 c.2.2.1)<=-1)
theorem told (O:OkC f) (hb:enterL noBounds (allL f)=some b):Told f b:=by
 have hI:=(all_in O).2 b hb
 have hd:∀ i,i<27->gt noBounds i i<=0:=fun i hi=>by rw [zec.dg i hi];omega
 have hent:=zfw hd (fun r hr=>among27 O (zeO O r hr)) hb
 have nm:=O.nm
 have one:∀ j,j<f.1.length->gt b j (j+1)<=0:=fun j hj=>by
  have h1:=hent _ (yas.2 (.inl (yas.2 (.inl (zdd.2 ⟨j,hj,.inr rfl⟩)))))
  simp only [show ((0:Int)+(j:Int)+1).toNat=j+1 by omega,show ((0:Int)+(j:Int)).toNat=j by omega] at h1
  have:=O.months _ (zao f.1 (0,0) j hj)
  omega
 have kn:∀ j,j<=f.1.length->known f j:=fun j hj=>.inl hj
 refine ⟨fun i j hij hj=>?_,fun k hk=>?_,fun c hc=>?_⟩
 ·obtain ⟨d,rfl⟩:∃ d,j=i+d:=⟨j - i,by omega⟩
  clear hij
  induction d with
  | zero =>
   rw [Nat.add_zero,hI.dg i (by omega)];omega
  | succ d ih =>
   have h1:=ih (by omega)
   have h2:=one (i+d) (by omega)
   have h3:=hI.tri i (i+d) (i+d+1) (kn _ (by omega)) (kn _ (by omega)) (kn _ (by omega))
   rw [show i+(d+1)=i+d+1 by omega]
   omega
 ·have h1:=hent _ (yas.2 (.inl (yas.2 (.inr (yas.2 (.inl (zef (k:=0).2 ⟨k+1,hk,.inr (.inr ⟨by omega,rfl⟩)⟩)))))))
  simp only [ybH] at h1
  rw [show (13+(((k+1:Nat):Int) - 1)).toNat=13+k by omega,show (13+((k+1:Nat):Int)).toNat=13+(k+1) by omega] at h1
  exact h1
 ·have h1:=hent (ruleOf c) (yas.2 (.inr (ycY hc)))
  unfold ruleOf at h1
  unfold ptOf
  cases hf:c.2.2.2 with
  | true=>rw [hf] at h1;exact h1
  | false=>rw [hf] at h1;exact h1
theorem grade_thr (O:OkC f) (hb:enterL noBounds (allL f)=some b) {a:Nat} (ha:(a:Int)<f.2.2.1):∃ L H:Nat,gradeV f (a:Int)=(((L:Int),(H:Int)),0)/\L<=H/\H<=f.2.1.length /\
  (∀ k,k<f.2.1.length->(gt b (13+k) (21+a)<=0↔k<L))/\(∀ k,k<f.2.1.length->(0<=gt b (21+a) (13+k)↔k<H)):=by
 have hI:=(all_in O).2 b hb
 have T:=told O hb
 have ns:=O.ns
 have ko:known f (21+a):=.inr (.inr (by omega))
 have kr:∀ k,k<f.2.1.length->known f (13+k):=fun k hk=>.inr (.inl (by omega))
 obtain ⟨L,l1,l2⟩:=zgp f.2.1.length (fun k=>gt b (13+k) (21+a)<=0) fun k hk h=>by
  have:=T.refs k hk
  have:=hI.tri (13+k) (13+(k+1)) (21+a) (kr k (by omega)) (kr _ hk) ko
  have h:gt b (13+(k+1)) (21+a)<=0:=h
  show gt b (13+k) (21+a)<=0
  omega
 obtain ⟨H,h1,h2⟩:=zgp f.2.1.length (fun k=>0<=gt b (21+a) (13+k)) fun k hk h=>by
  have:=T.refs k hk
  have:=hI.tri (21+a) (13+k) (13+(k+1)) ko (kr k (by omega)) (kr _ hk)
  have h:0<=gt b (21+a) (13+(k+1)):=h
  show 0<=gt b (21+a) (13+k)
  omega
 have hLH:L<=H:=by
  rcases ycv H L with h | h
  ·have a1:=(l2 H (by omega)).2 h
   have a2:¬ 0<=gt b (21+a) (13+H):=fun hh=>by have:=(h2 H (by omega)).1 hh;omega
   have:=hI.tri (21+a) (13+H) (21+a) ko (kr H (by omega)) ko
   have:=hI.dg (21+a) (hI.lt _ ko)
   omega
  ·exact h
 refine ⟨L,H,?_,hLH,h1,l2,h2⟩
 have q1:∀ k:Nat,aboveV (some b) (13+(k:Int)) (21+(a:Int))=gt b (13+k) (21+a):=fun k=>by
  show gt b (13+(k:Int)).toNat (21+(a:Int)).toNat=_
  rw [show (13+(k:Int)).toNat=13+k by omega,show (21+(a:Int)).toNat=21+a by omega]
 have q2:∀ k:Nat,aboveV (some b) (21+(a:Int)) (13+(k:Int))=gt b (21+a) (13+k):=fun k=>by
  show gt b (21+(a:Int)).toNat (13+(k:Int)).toNat=_
  rw [show (13+(k:Int)).toNat=13+k by omega,show (21+(a:Int)).toNat=21+a by omega]
 have g:=go_thr (b:=b) (o:=21+(a:Int)) (L:=L) (H:=H) (R:=f.2.1.length) (fun k hk=>by rw [q1];exact l2 k hk) (fun k hk=>by rw [q2];exact h2 k hk) l1 h1 f.2.1.length 0 (0,0) (by omega)
 have w:less1 f.2.2.1=f.2.2.1 - 1:=wrap_in (by simp only [Z.in64];omega)
 have hv:inB (a:Int) 0 (f.2.2.1 - 1)=true:=inB_iff.2 ⟨by omega,by omega⟩
 rw [gradeV,w]
 simp only [hv,open_cards (cards_iff.2 O),hb]
 simp only [Nat.min_zero,Int.zero_add,show ((0:Nat):Int)=0 from rfl,Int.sub_zero] at g
 show (gradeGo (some b) (21+(a:Int)) f.2.1.length 0 (0,0),(0:Int))=_
 rw [g]
end
end Go.Fade
