/-
  Chapter 10: the conditions of push and fill, proved.
-/
import Derived.Test.YtdhdklojcppfcaaTtOP4
set_option linter.all false
set_option maxRecDepth 100000
set_option maxHeartbeats 4000000
set_option linter.unusedVariables false
open Bool renaming and_eq_true->yac
open Int renaming eq_ofNat_of_zero_le->ydF,toNat_natCast->ydw
open List renaming drop_of_length_le->ydO,length_range->ydP,range->yaf
namespace Go.Tt
open Go Go.Sx
theorem v195 (x:Flow × Int × Int) (h:k195.pre x):V195 x:=by
 obtain ⟨f₀,i,most⟩:=x
 obtain ⟨hf₀,⟨h1,h2⟩,hmost,hmost2⟩:FlowOk f₀/\(0<=i/\i<(MM f₀:Int))/\0<most/\most<=topN:=h
 obtain ⟨i,rfl⟩:=ydF h1
 have hi:i<MM f₀:=by omega
 have hN:=hf₀.n8
 have hM:=hf₀.m8
 obtain ⟨u,hu⟩:∃ u,u=unseen f₀:=⟨_,rfl⟩
 have hspec:=zfp u
 have hval:zab (f₀,((i:Nat):Int),most)=pushL (pushN u) (i:Nat) most (ixs (yaf (NN f₀))) f₀:=by
  show pushN (unseen f₀+1) f₀ _ _=_
  rw [<-hu];rfl
 refine ⟨hf₀.mo.1,fun s=>0<=s.1/\s.1<=(NN f₀:Int)/\Mild f₀ s.2/\s.2.2.1=f₀.2.1/\pushL (pushN u) (i:Nat) most (ixs ((yaf (NN f₀)).drop s.1.toNat)) s.2=zab (f₀,((i:Nat):Int),most),fun s=>((NN f₀:Int) - s.1).toNat,⟨by simp,by show (0:Int)<=(NN f₀:Int);omega,Mild.refl hf₀,rfl,hval.symm⟩,?_⟩
 rintro ⟨k,f⟩ ⟨k1,k2,hm,hg,hv⟩
 simp only at k1 k2 hm hg hv ⊢
 have hf:FlowOk f:=hf₀.other hm hg
 have eN:NN f=NN f₀:=by rw [NN,hm.mo]
 have eM:MM f=MM f₀:=by rw [MM,hm.mo]
 refine ⟨fun hk=>?_,fun hk=>?_⟩
 rotate_left
 ·have hk:¬ k<(NN f₀:Int):=of_decide_eq_false hk
  rw [ydO (by rw [ydP];omega)] at hv
  exact hv
 have hk:k<(NN f₀:Int):=of_decide_eq_true hk
 obtain ⟨k,rfl⟩:=ydF k1
 have hkN:k<NN f₀:=by omega
 have hkf:k<NN f:=by omega
 rw [ydw,zeq _ _ hkN,pushL] at hv
 have hse:0<=f.2.2.2:=hf.seen.1
 have hser:smallSet ((mkt f.1).2.2.getD i 0):=hf.mo.2.serves _ (zan _ 0 i (by rw [hf.mo.2.len];show i<MM f;omega))
 have hclo:smallSet (f.2.2.1.getD i 0):=hf.cs _ (zan _ 0 i (by rw [hf.c8];omega))
 refine ⟨⟨hse,by omega,by show ((k:Nat):Int)<64;omega⟩,fun _=>hf.mo.1,fun _=>⟨by omega,?_⟩,fun _=>⟨?_,by omega,by show ((k:Nat):Int)<64;omega⟩,fun _=>⟨by omega,by show ((i:Nat):Int)<8;omega⟩,fun _=>⟨hclo.1,by omega,by show ((k:Nat):Int)<64;omega⟩,fun hsk=>⟨by simp only [Z.in64];omega,⟨by show (0:Int)<=(k:Int)+1;omega,by show (k:Int)+1<=(NN f₀:Int);omega,hm,hg,?_⟩,?_⟩,fun hsk=>?_⟩
 ·show ((i:Nat):Int)<((mkt f.1).2.2.length:Int)
  rw [hf.mo.2.len]
  show ((i:Nat):Int)<((MM f:Nat):Int)
  omega
 ·exact hser.1
 ·have hsk:skipV f (i:Nat) (k:Nat)=true:=hsk
  rw [hsk,cond_true] at hv
  have e:((k:Int)+1).toNat=k+1:=by omega
  show pushL _ _ _ (ixs ((yaf (NN f₀)).drop ((k:Int)+1).toNat)) f=_
  rw [e];exact hv
 ·show ((NN f₀:Int) - ((k:Int)+1)).toNat<((NN f₀:Int) - (k:Int)).toNat
  omega
 have hsk:skipV f (i:Nat) (k:Nat)=false:=hsk
 rw [hsk,cond_false] at hv
 obtain ⟨hs1,hs2⟩:=zhK.1 hsk
 have hmk:=zeu hf hkf
 have hfm:FlowOk (markV f (k:Nat)):=hf.other hmk rfl
 have hum:unseen (markV f (k:Nat))<u:=by
  have:=zfD hkf hs1
  have:=zei hm.mo hm.grow
  omega
 obtain ⟨hT,hT0⟩:=zkg (i:=i) hspec hf hmost hkf hs1 hum
 have hlp:=znf hf hkf
 refine ⟨shl_ok (by omega) (by omega),⟨hse,pow_nn _⟩,⟨hfm,by omega,by show ((k:Nat):Int)<(NN f:Int);omega⟩,fun s=>0<=s.2.1/\s.2.1<=(MM f:Int)/\0<=s.1/\(s.1=0->Mild (markV f (k:Nat)) s.2.2/\s.2.2.2.1=f.2.1)/\s.2.2.1=f.1/\fromL (pushN u) (i:Nat) (k:Nat) most (ixs ((yaf (MM f)).drop s.2.1.toNat)) s.1 s.2.2=tryK (pushN u) f (i:Nat) most (k:Nat),fun s=>((MM f:Int) - s.2.1).toNat,⟨by simp,by show (0:Int)<=(MM f:Int);omega,?_,fun _=>⟨Mild.refl hfm,rfl⟩,rfl,rfl⟩,?_⟩
 ·show 0<=min most (lackingV f (k:Nat))
  omega
 rintro ⟨n,j,g⟩ ⟨j1,j2,n0,hz,hgm,hfr⟩
 simp only at j1 j2 n0 hz hgm hfr ⊢
 obtain ⟨j,rfl⟩:=ydF j1
 have hgMM:MM g=MM f:=by rw [MM,hgm]
 refine ⟨fun _=>by rw [hgm];exact hf.mo.1,fun hc=>?_,fun hc=>?_⟩
 ·-- one more supply is looked at
  rw [yac] at hc
  have hn:n=0:=eq_of_beq hc.1
  subst hn
  have hj:((j:Nat):Int)<(MM g:Int):=of_decide_eq_true hc.2
  have hjf:j<MM f:=by omega
  obtain ⟨hmg,hgg⟩:=hz rfl
  have hfg:FlowOk g:=hfm.other hmg hgg
  have hmo:g.1=f.1:=hgm
  have hcg:smallSet (g.2.2.1.getD j 0):=hfg.cs _ (zan _ 0 j (by rw [hfg.c8];omega))
  rw [ydw,zeq _ _ hjf,fromL,show ((0:Int)==0)=true from rfl,cond_true] at hfr
  have hj8:((j:Nat):Int)<8:=by omega
  have hk8:((k:Nat):Int)<8:=by omega
  obtain ⟨bk,hbk⟩:∃ bk,bk=min most (getG g.2.1 ((j:Nat):Int) ((k:Nat):Int)):=⟨_,rfl⟩
  have hgf:∀ a b,gg g a b=gg f a b:=fun a b=>by rw [gg,hgg]
  have hgb:=gg_bd hf j k
  have hbk2:getG g.2.1 ((j:Nat):Int) ((k:Nat):Int)=gg f j k:=hgf j k
  have hun:unseen g<u:=Nat.lt_of_le_of_lt (zei hmg.mo hmg.grow) hum
  have eN2:NN g=NN f:=by rw [NN,hmo]
  refine ⟨⟨by omega,hj8⟩,⟨by omega,hk8⟩,fun _=>⟨by omega,hj8⟩,fun _=>⟨hcg.1,by omega,by show ((k:Nat):Int)<64;omega⟩,fun hb=>?_,fun hb=>⟨by simp only [Z.in64];omega,⟨by show (0:Int)<=(j:Int)+1;omega,by show (j:Int)+1<=(MM f:Int);omega,Int.le_refl _,fun _=>⟨hmg,hgg⟩,hmo,?_⟩,?_⟩⟩
  ·have hb:((!(((j:Nat):Int)==((i:Nat):Int))&&decide (0<min most (getG g.2.1 (j:Nat) (k:Nat))))&&!hasB (g.2.2.1.getD ((j:Nat):Int).toNat 0) (k:Nat))=true:=hb
   rw [hb,cond_true,<-hbk] at hfr
   simp only [yac,Bool.not_eq_true',decide_eq_true_eq] at hb
   obtain ⟨⟨c1,c2⟩,c3⟩:=hb
   rw [<-hbk] at c2
   have hR:=hspec g j bk hfg (by omega) c2 hun
   have hpv:zab (g,((j:Nat):Int),bk)=pushN u g (j:Nat) bk:=(zoM hfg (by omega) c2 hun).symm
   rw [<-hpv] at hR hfr
   have hle:bk<=gg f j k:=by omega
   simp only [topN] at hgb hmost2
   refine ⟨⟨⟨⟨hfg,⟨by omega,hj⟩,?_,?_⟩,?_⟩,trivial,trivial⟩,fun hp=>?_,fun hp=>?_⟩
   ·show 0<min most (getG g.2.1 _ _)
    rw [<-hbk];exact c2
   ·show min most (getG g.2.1 _ _)<=topN
    rw [<-hbk];simp only [topN];omega
   ·show unseen g<unseen f₀
    omega
   ·have hp:decide (0<(zab (g,((j:Nat):Int),min most (getG g.2.1 ((j:Nat):Int) ((k:Nat):Int)))).1)=true:=hp
    rw [<-hbk] at hp
    have hG:=hR.gain (of_decide_eq_true hp)
    rw [hp,cond_true] at hfr
    have hp:=of_decide_eq_true hp
    have hrle:=hR.le
    have hmild:=hR.mild
    have hkk:gg (zab (g,((j:Nat):Int),bk)).2 j k=gg f j k:=(hG.old k (hmg.grow k (by rw [zdD];simp)) j).trans (hgf j k)
    have hkk':getG (zab (g,((j:Nat):Int),bk)).2.2.1 ((j:Nat):Int) ((k:Nat):Int)=gg f j k:=hkk
    refine ⟨⟨by omega,hj8⟩,⟨by omega,hk8⟩,?_,⟨by omega,hj8⟩,⟨by omega,hk8⟩,by simp only [Z.in64];omega,⟨by show (0:Int)<=(j:Int)+1;omega,by show (j:Int)+1<=(MM f:Int);omega,?_,?_,?_,?_⟩,?_⟩
    ·show Z.in64 (getG (zab (g,((j:Nat):Int),min most (getG g.2.1 ((j:Nat):Int) ((k:Nat):Int)))).2.2.1 ((j:Nat):Int) ((k:Nat):Int) - (zab (g,((j:Nat):Int),min most (getG g.2.1 ((j:Nat):Int) ((k:Nat):Int)))).1)
     rw [<-hbk,hkk']
     simp only [Z.in64];omega
    ·show 0<=(zab (g,((j:Nat):Int),min most (getG g.2.1 ((j:Nat):Int) ((k:Nat):Int)))).1
     rw [<-hbk];omega
    ·intro hz
     have hz:(zab (g,((j:Nat):Int),min most (getG g.2.1 ((j:Nat):Int) ((k:Nat):Int)))).1=0:=hz
     rw [<-hbk] at hz;omega
    ·show (zab (g,((j:Nat):Int),min most (getG g.2.1 ((j:Nat):Int) ((k:Nat):Int)))).2.1=_
     rw [<-hbk,hmild.mo];exact hmo
    ·have e:((j:Int)+1).toNat=j+1:=by omega
     refine Eq.trans ?_ hfr
     show fromL _ _ _ _ (ixs ((yaf (MM f)).drop ((j:Int)+1).toNat)) (zab (g,((j:Nat):Int),min most (getG g.2.1 ((j:Nat):Int) ((k:Nat):Int)))).1 ((zab (g,((j:Nat):Int),min most (getG g.2.1 ((j:Nat):Int) ((k:Nat):Int)))).2.1,setG (zab (g,((j:Nat):Int),min most (getG g.2.1 ((j:Nat):Int) ((k:Nat):Int)))).2.2.1 ((j:Nat):Int) ((k:Nat):Int) (getG (zab (g,((j:Nat):Int),min most (getG g.2.1 ((j:Nat):Int) ((k:Nat):Int)))).2.2.1 ((j:Nat):Int) ((k:Nat):Int) - (zab (g,((j:Nat):Int),min most (getG g.2.1 ((j:Nat):Int) ((k:Nat):Int)))).1),(zab (g,((j:Nat):Int),min most (getG g.2.1 ((j:Nat):Int) ((k:Nat):Int)))).2.2.2)=_
     rw [<-hbk,e]
    ·show ((MM f:Int) - ((j:Int)+1)).toNat<((MM f:Int) - (j:Int)).toNat
     omega
   ·have hp:decide (0<(zab (g,((j:Nat):Int),min most (getG g.2.1 ((j:Nat):Int) ((k:Nat):Int)))).1)=false:=hp
    rw [<-hbk] at hp
    rw [hp,cond_false] at hfr
    have hp:=of_decide_eq_false hp
    have hz:(zab (g,((j:Nat):Int),bk)).1=0:=by have:=hR.nn;omega
    have hF:=hR.fail hz
    have hmild:=hR.mild
    refine ⟨by simp only [Z.in64];omega,⟨by show (0:Int)<=(j:Int)+1;omega,by show (j:Int)+1<=(MM f:Int);omega,?_,fun _=>?_,?_,?_⟩,?_⟩
    ·show 0<=(zab (g,((j:Nat):Int),min most (getG g.2.1 ((j:Nat):Int) ((k:Nat):Int)))).1
     rw [<-hbk];exact hR.nn
    ·show Mild _ (zab (g,((j:Nat):Int),min most (getG g.2.1 ((j:Nat):Int) ((k:Nat):Int)))).2/\(zab (g,((j:Nat):Int),min most (getG g.2.1 ((j:Nat):Int) ((k:Nat):Int)))).2.2.1=_
     rw [<-hbk]
     exact ⟨hmg.trans hmild,hF.giv.trans hgg⟩
    ·show (zab (g,((j:Nat):Int),min most (getG g.2.1 ((j:Nat):Int) ((k:Nat):Int)))).2.1=_
     rw [<-hbk,hmild.mo];exact hmo
    ·have e:((j:Int)+1).toNat=j+1:=by omega
     refine Eq.trans ?_ hfr
     show fromL _ _ _ _ (ixs ((yaf (MM f)).drop ((j:Int)+1).toNat)) (zab (g,((j:Nat):Int),min most (getG g.2.1 ((j:Nat):Int) ((k:Nat):Int)))).1 (zab (g,((j:Nat):Int),min most (getG g.2.1 ((j:Nat):Int) ((k:Nat):Int)))).2=_
     rw [<-hbk,e]
    ·show ((MM f:Int) - ((j:Int)+1)).toNat<((MM f:Int) - (j:Int)).toNat
     omega
  ·have hb:((!(((j:Nat):Int)==((i:Nat):Int))&&decide (0<min most (getG g.2.1 (j:Nat) (k:Nat))))&&!hasB (g.2.2.1.getD ((j:Nat):Int).toNat 0) (k:Nat))=false:=hb
   rw [hb,cond_false] at hfr
   have e:((j:Int)+1).toNat=j+1:=by omega
   show fromL _ _ _ _ (ixs ((yaf (MM f)).drop ((j:Int)+1).toNat)) 0 g=_
   rw [e];exact hfr
  ·show ((MM f:Int) - ((j:Int)+1)).toNat<((MM f:Int) - (j:Int)).toNat
   omega
 ·-- the look is at its end
  have hend:(n,g)=tryK (pushN u) f (i:Nat) most (k:Nat):=by
   by_cases hn:n=0
   ·subst hn
    have hc:((0:Int)==0&&decide (((j:Nat):Int)<(MM g:Int)))=false:=hc
    have hj:¬ ((j:Nat):Int)<(MM g:Int):=of_decide_eq_false (by simpa using hc)
    rw [ydO (by rw [ydP];omega)] at hfr
    exact hfr
   ·rw [zew _ _ _ _ _ _ hn] at hfr
    exact hfr
  rw [<-hend] at hv hT hT0
  simp only at hv hT0
  have hmr:=hmk.trans hT.mild
  refine ⟨fun hp=>?_,fun hp=>?_⟩
  ·have hpb:decide (0<n)=true:=hp
   have hp:=of_decide_eq_true hpb
   rw [hpb,cond_true] at hv
   have hH:=hT.half hp
   have hle:n<=most:=hT.le
   have hgb:gg g i k<=topN:=by
    have h1:colS g.2.1 (k:Nat) (MM f)+(if k=k then n else 0)<=(mkt f.1).1.getD k 0:=hH.col k hkf
    rw [if_pos rfl] at h1
    have h2:gg g i k<=colS g.2.1 (k:Nat) (MM f):=sumN_ge (f:=fun a=>gg g a k) (fun a _=>hH.pos a k) (by omega)
    have h3:=(znu hf hkf).2
    refine Int.le_trans h2 ?_
    clear h2
    omega
   have hgp:0<=gg g i k:=hH.pos i k
   refine ⟨⟨by omega,by show ((i:Nat):Int)<8;omega⟩,⟨by omega,by show ((k:Nat):Int)<8;omega⟩,?_,⟨by omega,by show ((i:Nat):Int)<8;omega⟩,⟨by omega,by show ((k:Nat):Int)<8;omega⟩,?_⟩
   ·show Z.in64 (gg g i k+n)
    revert hgb hgp
    generalize gg g i k=v
    intro hgb hgp
    simp only [topN] at hgb hmost2
    simp only [Z.in64];omega
   ·exact hv
  ·have hpb:decide (0<n)=false:=hp
   have hp:=of_decide_eq_false hpb
   rw [hpb,cond_false] at hv
   have hn:n=0:=by omega
   refine ⟨by simp only [Z.in64];omega,⟨by show (0:Int)<=(k:Int)+1;omega,by show (k:Int)+1<=(NN f₀:Int);omega,hm.trans hmr,(hT.giv hn).trans hg,?_⟩,?_⟩
   ·have e:((k:Int)+1).toNat=k+1:=by omega
    show pushL _ _ _ (ixs ((yaf (NN f₀)).drop ((k:Int)+1).toNat)) g=_
    rw [e];exact hv
   ·show ((NN f₀:Int) - ((k:Int)+1)).toNat<((NN f₀:Int) - (k:Int)).toNat
    omega
end Go.Tt
