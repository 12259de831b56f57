/-
  Chapter 10: pushes, by induction on how many orders were not seen. Plain Lean; no program in sight.
-/
import Derived.Test.YtdhdklojcppfcaaTtO2
set_option linter.all false
set_option maxRecDepth 100000
set_option maxHeartbeats 1000000
set_option linter.unusedVariables false
open Bool renaming and_eq_true->yac,not_eq_true'->yaF
open Int renaming le_of_lt->yaT,le_refl->ydz,lt_irrefl->ydA,toNat_natCast->ydw
open List renaming mem_cons->yaq,mem_cons_of_mem->yal,mem_cons_self->yam,mem_range->ycU,range->yaf
open Nat renaming le_trans->yah,lt_of_le_of_lt->ydB
namespace Go.Tt
open Go Go.Sx
structure FromR (f fc:Flow) (i k:Nat) (most:Int) (l:List Nat) (r:Int × Flow):Prop where
 mild:Mild fc r.2
 nn:0<=r.1
 le:r.1<=most
 giv:r.1=0->r.2.2.1=f.2.1
 oth:r.1=0->∀ j∈l,j≠i->0<gg f j k->∀ k',k'<NN f->openB f j k'=true->seenB r.2 k'=true
 done:r.1=0->∀ m,m<NN f->seenB r.2 m=true->seenB fc m=false->lackingV f (m:Nat)=0/\∀ j,j<MM f->0<gg f j m->∀ k',k'<NN f->openB f j k'=true->seenB r.2 k'=true
 half:0<r.1->Half f r.2 i k r.1
theorem ziL {P:Push} {b:Nat} (hP:PushSpec P b) {f:Flow} (hf:FlowOk f) {i k:Nat} {most:Int} (hmost:0<most) (hk:k<NN f) (hsf:seenB f k=false) (h0:lackingV f (k:Nat)=0) :
  ∀ (l:List Nat) (fc:Flow),(∀ j∈l,j<MM f)->Mild (markV f (k:Nat)) fc->fc.2.1=f.2.1->unseen fc<b->FromR f fc i k most l (fromL P (i:Nat) (k:Nat) most (ixs l) 0 fc)
 | [],fc,_,hm,hg,_=>by
  have hfc:FlowOk fc:=hf.other ((zeu hf hk).trans hm) hg
  refine ⟨Mild.refl hfc,ydz _,yaT hmost,fun _=>hg,fun _ j hj=>(by cases hj),fun _ m hm h1 h2=>?_,fun h=>absurd h (ydA _)⟩
  have h1:seenB fc m=true:=h1
  rw [h1] at h2;cases h2
 | j::l,fc,hl,hm,hg,hb=>by
  have hfc:FlowOk fc:=hf.other ((zeu hf hk).trans hm) hg
  have hj:=hl j yam
  have hmo:fc.1=f.1:=hm.mo
  have hcl:fc.2.2.1=f.2.2.1:=hm.cl
  have hN:NN fc=NN f:=by rw [NN,hmo]
  have hM:MM fc=MM f:=by rw [MM,hmo]
  have hO:∀ a b,openB fc a b=openB f a b:=zcW hmo hcl
  have hG:∀ a b,gg fc a b=gg f a b:=fun a b=>by rw [gg,hg]
  have hL:∀ m:Int,lackingV fc m=lackingV f m:=zgQ hmo hg
  show FromR f fc i k most (j::l) (fromL P (i:Nat) (k:Nat) most (((j:Nat):Int)::ixs l) 0 fc)
  rw [fromL,show ((0:Int)==0)=true from rfl,cond_true]
  have hlj:∀ x∈l,x<MM f:=fun x hx=>hl x (yal _ hx)
  cases hc:((!(((j:Nat):Int)==((i:Nat):Int))&&decide (0<min most (getG fc.2.1 (j:Nat) (k:Nat))))&&!hasB (fc.2.2.1.getD ((j:Nat):Int).toNat 0) (k:Nat)) with
  | false =>
   rw [cond_false]
   have ih:=ziL hP hf hmost hk hsf h0 l fc hlj hm hg hb (i:=i)
   refine ⟨ih.mild,ih.nn,ih.le,ih.giv,fun hz x hx hxi hp=>?_,ih.done,ih.half⟩
   rcases yaq.1 hx with rfl | hx
   ·exfalso
    have ho:=(hf.op hp).2.2
    have e1:(((x:Nat):Int)==((i:Nat):Int))=false:=beq_eq_false_iff_ne.2 (by omega)
    have hp':0<getG fc.2.1 (x:Nat) (k:Nat):=by rw [hg];exact hp
    have e2:decide (0<min most (getG fc.2.1 (x:Nat) (k:Nat)))=true:=decide_eq_true (by omega)
    rw [<-hO] at ho
    simp only [openB,yac] at ho
    rw [e1,e2,ydw,ho.2] at hc
    cases hc
   ·exact ih.oth hz x hx hxi hp
  | true =>
   rw [cond_true]
   simp only [yac,yaF,decide_eq_true_eq] at hc
   obtain ⟨⟨c1,c2⟩,c3⟩:=hc
   have hgj:getG fc.2.1 (j:Nat) (k:Nat)=gg f j k:=hG j k
   have hback:min most (getG fc.2.1 (j:Nat) (k:Nat))<=gg f j k:=by
    rw [hgj];omega
   have hp:0<gg f j k:=by rw [hgj] at c2;omega
   obtain ⟨bk,hbk⟩:∃ bk,bk=min most (getG fc.2.1 (j:Nat) (k:Nat)):=⟨_,rfl⟩
   rw [<-hbk] at c2 hback ⊢
   have hR:=hP fc j bk hfc (by rw [hM];exact hj) c2 hb
   obtain ⟨n,f',hr⟩:∃ n f',P fc ((j:Nat):Int) bk=(n,f'):=⟨_,_,rfl⟩
   rw [hr] at hR ⊢
   obtain ⟨r1,r2,r3,r4,r5⟩:=hR
   simp only at r1 r2 r3 r4 r5 ⊢
   cases hn:decide (0<n) with
   | true =>
    have hn:=of_decide_eq_true hn
    rw [cond_true,zew _ _ _ _ _ _ (by omega)]
    have hg5:=r5 hn
    refine ⟨⟨r1.mo,r1.cl,r1.sm,r1.grow⟩,r2,by show n<=most;omega,fun hz=>?_,fun hz=>?_,fun hz=>?_,fun _=>hg5.half hf hm hg hj hk hp (by omega) hn h0 hsf⟩
    all_goals (have hz:n=0:=hz;omega)
   | false =>
    have hn:=of_decide_eq_false hn
    have hn0:n=0:=by omega
    subst hn0
    rw [cond_false]
    have hF:=r4 rfl
    have hg':f'.2.1=f.2.1:=hF.giv.trans hg
    have ih:=ziL hP hf hmost hk hsf h0 l f' hlj (hm.trans r1) hg' (ydB (zei r1.mo r1.grow) hb) (i:=i)
    refine ⟨r1.trans ih.mild,ih.nn,ih.le,ih.giv,fun hz x hx hxi hpx k' hk' ho=>?_,fun hz m hmn hs1 hs2=>?_,ih.half⟩
    ·rcases yaq.1 hx with rfl | hx
     ·exact ih.mild.grow k' (hF.own k' (by rw [hN];exact hk') (by rw [hO];exact ho))
     ·exact ih.oth hz x hx hxi hpx k' hk' ho
    ·cases hs:seenB f' m with
     | false=>exact ih.done hz m hmn hs1 hs
     | true =>
      obtain ⟨d1,d2⟩:=hF.done m (by rw [hN];exact hmn) hs hs2
      refine ⟨(hL _).symm.trans d1,fun x hx hpx k' hk' ho=>?_⟩
      exact ih.mild.grow k' (d2 x (by rw [hM];exact hx) (by rw [hG];exact hpx) k' (by rw [hN];exact hk') (by rw [hO];exact ho))
theorem zkg {P:Push} {b:Nat} (hP:PushSpec P b) {f:Flow} (hf:FlowOk f) {i k:Nat} {most:Int} (hmost:0<most) (hk:k<NN f) (hsf:seenB f k=false) (hb:unseen (markV f (k:Nat))<b) :
  FromR f (markV f (k:Nat)) i k most (yaf (MM f)) (tryK P f (i:Nat) most (k:Nat))/\((tryK P f (i:Nat) most (k:Nat)).1=0->lackingV f (k:Nat)=0):=by
 have hmk:=zeu hf hk
 have hl:lackingV (markV f (k:Nat)) (k:Nat)=lackingV f (k:Nat):=rfl
 have hlp:=znf hf hk
 unfold tryK
 rw [hl]
 obtain ⟨n,hn⟩:∃ n,n=min most (lackingV f (k:Nat)):=⟨_,rfl⟩
 rw [<-hn]
 by_cases h0:n=0
 ·have hl0:lackingV f (k:Nat)=0:=by omega
  rw [h0]
  exact ⟨ziL hP hf hmost hk hsf hl0 (yaf (MM f)) (markV f (k:Nat)) (fun j hj=>ycU.1 hj) (Mild.refl (hf.other hmk rfl)) rfl hb,fun _=>hl0⟩
 ·have hstop:fromL P (i:Nat) (k:Nat) most (idx (mkt f.1).2.1.length) n (markV f (k:Nat))=(n,markV f (k:Nat)):=zew _ _ _ _ _ _ h0
  rw [hstop]
  refine ⟨⟨Mild.refl (hf.other hmk rfl),by show 0<=n;omega,by show n<=most;omega,fun hz=>absurd hz h0,fun hz=>absurd hz h0,fun hz=>absurd hz h0,fun hp=>?_⟩,fun hz=>absurd hz h0⟩
  refine ⟨hf.g8,hf.r8,fun j m=>hf.pos j m,fun j m hp=>hf.op hp,fun _=>rfl,fun m hm=>?_,fun _ _ _=>rfl,fun S hS=>⟨fun hSk=>?_,fun _ _ _ _=>rfl⟩⟩
  ·have hc:=hf.col m hm
   show colS f.2.1 _ (mkt f.1).2.1.length+(if m=k then n else 0)<=_
   by_cases e:m=k
   ·subst e
    rw [if_pos rfl]
    simp only [lackingV,ydw] at hn
    omega
   ·rw [if_neg e];omega
  ·have:=hS.full k hk hSk
   omega
structure PushR (f:Flow) (i:Nat) (most:Int) (l:List Nat) (r:Int × Flow):Prop where
 mild:Mild f r.2
 nn:0<=r.1
 le:r.1<=most
 giv:r.1=0->r.2.2.1=f.2.1
 own:r.1=0->∀ k∈l,openB f i k=true->seenB r.2 k=true
 done:r.1=0->∀ m,m<NN f->seenB r.2 m=true->seenB f m=false->lackingV f (m:Nat)=0/\∀ j,j<MM f->j≠i->0<gg f j m->∀ k',k'<NN f->openB f j k'=true->seenB r.2 k'=true
 gain:0<r.1->Gain f r.2 i r.1
theorem zhK {f:Flow} {i k:Nat}:skipV f (i:Nat) (k:Nat)=false↔seenB f k=false/\openB f i k=true:=by
 simp only [skipV,seenB,openB,ydw]
 cases hasB f.2.2.2 (k:Nat)<;>cases hasB ((mkt f.1).2.2.getD i 0) (k:Nat)<;>cases hasB (f.2.2.1.getD i 0) (k:Nat)<;>simp
theorem zgK {P:Push} {b:Nat} (hP:PushSpec P b) {i:Nat} {most:Int} (hmost:0<most) :
  ∀ (l:List Nat) (f:Flow),FlowOk f->i<MM f->(∀ k∈l,k<NN f)->unseen f<=b->PushR f i most l (pushL P (i:Nat) most (ixs l) f)
 | [],f,hf,hi,hl,hb=>by
  refine ⟨Mild.refl hf,ydz _,yaT hmost,fun _=>rfl,fun _ k hk=>(by cases hk),fun _ m hm h1 h2=>?_,fun h=>absurd h (ydA _)⟩
  have h1:seenB f m=true:=h1
  rw [h1] at h2;cases h2
 | k::l,f,hf,hi,hl,hb=>by
  have hk:=hl k yam
  have hll:∀ x∈l,x<NN f:=fun x hx=>hl x (yal _ hx)
  show PushR f i most (k::l) (pushL P (i:Nat) most (((k:Nat):Int)::ixs l) f)
  rw [pushL]
  cases hs:skipV f (i:Nat) (k:Nat) with
  | true =>
   rw [cond_true]
   have ih:=zgK hP hmost l f hf hi hll hb
   refine ⟨ih.mild,ih.nn,ih.le,ih.giv,fun hz x hx ho=>?_,ih.done,ih.gain⟩
   rcases yaq.1 hx with rfl | hx
   ·cases hsx:seenB f x with
    | true=>exact ih.mild.grow x hsx
    | false=>rw [zhK.2 ⟨hsx,ho⟩] at hs;cases hs
   ·exact ih.own hz x hx ho
  | false =>
   rw [cond_false]
   obtain ⟨hs1,hs2⟩:=zhK.1 hs
   have hmk:=zeu hf hk
   have hun:=zfD hk hs1
   obtain ⟨hT,hT0⟩:=zkg (i:=i) hP hf hmost hk hs1 (by omega)
   obtain ⟨n,f',hr⟩:∃ n f',tryK P f (i:Nat) most (k:Nat)=(n,f'):=⟨_,_,rfl⟩
   rw [hr] at hT hT0 ⊢
   obtain ⟨t1,t2,t3,t4,t5,t6,t7⟩:=hT
   simp only at t1 t2 t3 t4 t5 t6 t7 hT0 ⊢
   cases hn:decide (0<n) with
   | true =>
    have hn:=of_decide_eq_true hn
    rw [cond_true]
    have hm':Mild f f':=hmk.trans t1
    refine ⟨⟨hm'.mo,hm'.cl,hm'.sm,hm'.grow⟩,t2,t3,fun hz=>?_,fun hz=>?_,fun hz=>?_,fun _=>(t7 hn).gain hf hi hk hs2 hs1 hn⟩
    all_goals (have hz:n=0:=hz;omega)
   | false =>
    have hn:=of_decide_eq_false hn
    have hn0:n=0:=by omega
    subst hn0
    rw [cond_false]
    have hm':Mild f f':=hmk.trans t1
    have hg':f'.2.1=f.2.1:=t4 rfl
    have hf':FlowOk f':=hf.other hm' hg'
    have hN:NN f'=NN f:=by rw [NN,hm'.mo]
    have hM:MM f'=MM f:=by rw [MM,hm'.mo]
    have hO:∀ a b,openB f' a b=openB f a b:=zcW hm'.mo hm'.cl
    have hG:∀ a b,gg f' a b=gg f a b:=fun a b=>by rw [gg,hg']
    have hL:∀ m:Int,lackingV f' m=lackingV f m:=zgQ hm'.mo hg'
    have ih:=zgK hP hmost l f' hf' (by rw [hM];exact hi) (by rw [hN];exact hll) (yah (zei hm'.mo hm'.grow) hb)
    refine ⟨hm'.trans ih.mild,ih.nn,ih.le,fun hz=>(ih.giv hz).trans hg',fun hz x hx ho=>?_,fun hz m hmn q1 q2=>?_,fun hp=>?_⟩
    ·rcases yaq.1 hx with rfl | hx
     ·exact ih.mild.grow x (t1.grow x (by rw [zdD];simp))
     ·exact ih.own hz x hx (by rw [hO];exact ho)
    ·cases hsm:seenB f' m with
     | false =>
      obtain ⟨d1,d2⟩:=ih.done hz m (by rw [hN];exact hmn) q1 hsm
      exact ⟨(hL _).symm.trans d1,fun j hj hji hp k' hk' ho=>d2 j (by rw [hM];exact hj) hji (by rw [hG];exact hp) k' (by rw [hN];exact hk') (by rw [hO];exact ho)⟩
     | true =>
      by_cases e:m=k
      ·subst e
       exact ⟨hT0 rfl,fun j hj hji hp k' hk' ho=>ih.mild.grow k' (t5 rfl j (ycU.2 hj) hji hp k' hk' ho)⟩
      ·have hmm:seenB (markV f (k:Nat)) m=false:=by
        rw [zdD,q2,decide_eq_false fun h=>e h.symm];rfl
       obtain ⟨d1,d2⟩:=t6 rfl m hmn hsm hmm
       exact ⟨d1,fun j hj _ hp k' hk' ho=>ih.mild.grow k' (d2 j hj hp k' hk' ho)⟩
    ·have g:=ih.gain hp
     refine ⟨g.g8,g.r8,g.pos,fun j m hpm=>?_,fun j=>?_,fun m hm=>?_,fun m hm j=>?_,fun S hS=>?_⟩
     ·have:=g.can j m hpm
      rwa [hM,hN,hO] at this
     ·have:=g.row j
      rwa [hg'] at this
     ·have:=g.col m (by rw [hN];exact hm)
      rwa [hM,hm'.mo] at this
     ·exact (g.old m (hm'.grow m hm) j).trans (hG j m)
     ·obtain ⟨⟨k',c1,c2,c3⟩,c4⟩:=g.cut S (hS.other hm'.mo hm'.cl hg')
      refine ⟨⟨k',by rwa [hN] at c1,by rwa [hO] at c2,c3⟩,fun m hm hSm j=>(c4 m (by rw [hN];exact hm) hSm j).trans (hG j m)⟩
theorem zfp:∀ n:Nat,PushSpec (pushN n) n
 | 0=>fun f i most _ _ _ hb=>absurd hb (by omega)
 | n+1=>by
  intro f i most hf hi hmost hb
  have h:=zgK (zfp n) hmost (yaf (NN f)) f hf hi (fun k hk=>ycU.1 hk) (by omega)
  have e:pushN (n+1) f (i:Nat) most=pushL (pushN n) (i:Nat) most (ixs (yaf (NN f))) f:=rfl
  rw [e]
  refine ⟨h.mild,h.nn,h.le,fun hz=>⟨h.giv hz,fun k hk ho=>h.own hz k (ycU.2 hk) ho,fun m hm h1 h2=>?_⟩,h.gain⟩
  obtain ⟨d1,d2⟩:=h.done hz m hm h1 h2
  refine ⟨d1,fun j hj hp k' hk' ho=>?_⟩
  by_cases e:j=i
  ·subst e;exact h.own hz k' (ycU.2 hk') ho
  ·exact d2 j hj e hp k' hk' ho
theorem zjD {f:Flow} (hf:FlowOk f) {i:Nat} (hi:i<MM f) {most:Int} (hmost:0<most):Result f i most (pushV f (i:Nat) most) :=
 zfp _ f i most hf hi hmost (by omega)
def Agree (P Q:Push) (b:Nat):Prop:=∀ (f:Flow) (i:Nat) (most:Int),FlowOk f->i<MM f->0<most->unseen f<b->P f (i:Nat) most=Q f (i:Nat) most
theorem zgV {P Q:Push} {b:Nat} (hP:PushSpec P b) (hA:Agree P Q b) {f:Flow} (hf:FlowOk f) {i k:Nat} {most:Int} (hmost:0<most) :
  ∀ (l:List Nat) (n:Int) (fc:Flow),(∀ j∈l,j<MM f)->Mild f fc->fc.2.1=f.2.1->unseen fc<b->fromL P (i:Nat) (k:Nat) most (ixs l) n fc=fromL Q (i:Nat) (k:Nat) most (ixs l) n fc
 | [],n,fc,_,_,_,_=>rfl
 | j::l,n,fc,hl,hm,hg,hb=>by
  have hj:=hl j yam
  have hlj:∀ x∈l,x<MM f:=fun x hx=>hl x (yal _ hx)
  have hfc:FlowOk fc:=hf.other hm hg
  have hM:MM fc=MM f:=by rw [MM,hm.mo]
  show fromL P (i:Nat) (k:Nat) most (((j:Nat):Int)::ixs l) n fc=fromL Q (i:Nat) (k:Nat) most (((j:Nat):Int)::ixs l) n fc
  rw [fromL,fromL]
  cases hn:(n==0) with
  | false=>rfl
  | true =>
   rw [cond_true,cond_true]
   cases hc:((!(((j:Nat):Int)==((i:Nat):Int))&&decide (0<min most (getG fc.2.1 (j:Nat) (k:Nat))))&&!hasB (fc.2.2.1.getD ((j:Nat):Int).toNat 0) (k:Nat)) with
   | false =>
    rw [cond_false,cond_false]
    exact zgV hP hA hf hmost l n fc hlj hm hg hb
   | true =>
    rw [cond_true,cond_true]
    simp only [yac,yaF,decide_eq_true_eq] at hc
    obtain ⟨⟨_,c2⟩,_⟩:=hc
    rw [<-hA fc j _ hfc (by rw [hM];exact hj) c2 hb]
    have hR:=hP fc j _ hfc (by rw [hM];exact hj) c2 hb
    generalize P fc ((j:Nat):Int) (min most (getG fc.2.1 (j:Nat) (k:Nat)))=r at hR ⊢
    cases hr:decide (0<r.1) with
    | true =>
     have hr:=of_decide_eq_true hr
     rw [cond_true,cond_true,zew _ _ _ _ _ _ (by omega),zew _ _ _ _ _ _ (by omega)]
    | false =>
     have hr:=of_decide_eq_false hr
     rw [cond_false,cond_false]
     have h0:r.1=0:=by have:=hR.nn;omega
     exact zgV hP hA hf hmost l _ r.2 hlj (hm.trans hR.mild) ((hR.fail h0).giv.trans hg) (ydB (zei hR.mild.mo hR.mild.grow) hb)
theorem zfL {P Q:Push} {b:Nat} (hP:PushSpec P b) (hA:Agree P Q b) {i:Nat} {most:Int} (hmost:0<most) :
  ∀ (l:List Nat) (f:Flow),FlowOk f->i<MM f->(∀ k∈l,k<NN f)->unseen f<=b->pushL P (i:Nat) most (ixs l) f=pushL Q (i:Nat) most (ixs l) f
 | [],f,_,_,_,_=>rfl
 | k::l,f,hf,hi,hl,hb=>by
  have hk:=hl k yam
  have hll:∀ x∈l,x<NN f:=fun x hx=>hl x (yal _ hx)
  show pushL P (i:Nat) most (((k:Nat):Int)::ixs l) f=pushL Q (i:Nat) most (((k:Nat):Int)::ixs l) f
  rw [pushL,pushL]
  cases hs:skipV f (i:Nat) (k:Nat) with
  | true =>
   rw [cond_true,cond_true]
   exact zfL hP hA hmost l f hf hi hll hb
  | false =>
   rw [cond_false,cond_false]
   obtain ⟨hs1,hs2⟩:=zhK.1 hs
   have hmk:=zeu hf hk
   have hun:=zfD hk hs1
   have e:tryK P f (i:Nat) most (k:Nat)=tryK Q f (i:Nat) most (k:Nat) :=
    zgV hP hA hf hmost (yaf (MM f)) _ _ (fun j hj=>ycU.1 hj) hmk rfl (by omega)
   rw [<-e]
   obtain ⟨hT,_⟩:=zkg (i:=i) hP hf hmost hk hs1 (by omega)
   generalize tryK P f (i:Nat) most (k:Nat)=r at hT ⊢
   cases hr:decide (0<r.1) with
   | true=>rw [cond_true,cond_true]
   | false =>
    have hr:=of_decide_eq_false hr
    have h0:r.1=0:=by have:=hT.nn;omega
    have hm':=hmk.trans hT.mild
    rw [cond_false,cond_false]
    exact zfL hP hA hmost l r.2 (hf.other hm' (hT.giv h0)) (by rw [MM,hm'.mo];exact hi) (by rw [NN,hm'.mo];exact hll) (yah (zei hm'.mo hm'.grow) hb)
theorem zit:∀ n m:Nat,n<=m->Agree (pushN n) (pushN m) n
 | 0,_,_=>fun f i most _ _ _ hb=>absurd hb (by omega)
 | n+1,0,h=>absurd h (by omega)
 | n+1,m+1,h=>by
  intro f i most hf hi hmost hb
  exact zfL (zfp n) (zit n m (by omega)) hmost (yaf (NN f)) f hf hi (fun k hk=>ycU.1 hk) (by omega)
theorem zoM {f:Flow} (hf:FlowOk f) {i:Nat} (hi:i<MM f) {most:Int} (hmost:0<most) {n:Nat} (hn:unseen f<n):pushN n f (i:Nat) most=pushV f (i:Nat) most :=
 (zit (unseen f+1) n (by omega) f i most hf hi hmost (by omega)).symm
end Go.Tt
