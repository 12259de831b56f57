/-
  Sack and the references: the small conditions.
-/
import Derived.Test.YtdhdklojcppfcaaTtKAuto
import Derived.Test.YtdhdklojcppfcaaTtSP3
set_option linter.all false
set_option maxRecDepth 100000
set_option maxHeartbeats 4000000
open Bool renaming and_assoc->ydB,and_eq_true->yac,and_false->ydH,false_and->ydG,false_or->ydK,not_and->ydC,or_assoc->ydD,or_eq_false_iff->ydM,true_and->yck
open Int renaming ediv_emod_unique->ydF,eq_ofNat_of_zero_le->ydw,natAbs_tdiv_le_natAbs->ydz,tdiv->ydv,tmod->ydA,tmod_lt_of_pos->ydE,toNat->yby,toNat_natCast->ydx,zero_add->ydN
open List renaming any_cons->ydr,any_eq_false->ydL,drop_eq_nil_of_le->ydc,foldl_cons->ybD,getD->yda,map_cons->ybB,mem_append->yas,mem_cons_of_mem->yal,mem_cons_self->yam,mem_map->ycp,mem_singleton->yat,range->yaf,replicate->yaa,take_of_length_le->ydJ,take_succ_eq_append_getElem->ydI
open Option.some renaming inj->yaA
namespace Go.Tt
open Go Go.Sx
theorem zai:TabsOk Go.Proofs.Try.prog TK:=⟨by kernel_rfl,maps_ok⟩
theorem v125 (x:Int × Int × Int) (_:k125.pre x):V125 x:=rfl
theorem v49 (x:Int × Int × Int) (_:k49.pre x):V49 x:=rfl
theorem v50 (x:Int × Int × Int) (_:k50.pre x):V50 x:=rfl
theorem v122 (x:Span × Int × Int) (_:k122.pre x):V122 x:=by
 show _=spanB x.1 x.2.1 x.2.2
 simp only [spanB,ydB]
theorem v48 (x:Span × Int × Int) (_:k48.pre x):V48 x:=by
 show _=spanB x.1 x.2.1 x.2.2
 simp only [spanB,ydB]
theorem v121 (x:SackS) (_:k121.pre x):V121 x:=by
 refine ⟨trivial,fun _=>trivial,fun _=>trivial,?_⟩
 show (((!spanB x.1 0 900)||(!spanB x.2.1 0 1000))||(!spanB x.2.2 0 900))=!sackB x
 simp only [sackB,ydC,ydD]
theorem v175 (x:(List SackS) × Fun SackS Bool) (h:k175.pre x):V175 x:=zfX x.1 ((0,0),(0,0),0,0) x.2 h.1 h.2
theorem v123 (x:(List SackS) × Fun SackS Bool) (h:k123.pre x):V123 x:=⟨h,any_ix _ _⟩
theorem v176 (x:(List TakeS) × Fun TakeS Bool) (h:k176.pre x):V176 x:=zfX x.1 (0,0,0) x.2 h.1 h.2
theorem v126 (x:(List TakeS) × Fun TakeS Bool) (h:k126.pre x):V126 x:=⟨h,any_ix _ _⟩
theorem v51 (x:List SackS) (_:k51.pre x):V51 x:=by
 refine ⟨fun h=>⟨?_,fun _ _=>trivial⟩,?_⟩
 ·have:=of_decide_eq_true h
  show x.length<=big
  simp only [big];omega
 ·show (decide _&&!(x.any fun s=>!sackB s))=sacksB x
  rw [any_not];rfl
theorem v124 (x:TakeS × List SackS) (h:k124.pre x):V124 x:=by
 have h:x.2.length<=8:=h
 refine ⟨by simp only [Z.in64];omega,trivial,fun _=>trivial,?_⟩
 show ((!inB x.1.1 0 ((x.2.length:Int) - 1))||(!spanB x.1.2 1 100000))=!takeB (x.2.length:Int) x.1
 simp only [takeB,ydC]
theorem v52 (x:(List SackS) × List TakeS) (h:k52.pre x):V52 x:=by
 have h:x.1.length<=8:=h
 refine ⟨trivial,fun hh=>⟨?_,fun _ _=>h⟩,?_⟩
 ·have:=inB_iff.1 (show inB (x.2.length:Int) 1 8=true from hh)
  show x.2.length<=big
  simp only [big];omega
 ·show (inB (x.2.length:Int) 1 8&&!(x.2.any fun t=>!takeB (x.1.length:Int) t))=batchB x.1 x.2
  rw [any_not];rfl
structure StaBd (s:StaS):Prop where
 d:100<=dryV s/\dryV s<=1000
 dc:0<=dryV s*s.2.1/\dryV s*s.2.1<=1000000
 db:0<=dryV s*(1000 - s.2.1)/\dryV s*(1000 - s.2.1)<=1000000
 sum:dryV s*s.2.1+dryV s*(1000 - s.2.1)=dryV s*1000
 b:0<=bakedV s/\bakedV s<=dryV s*(1000 - s.2.1)*1000
 m:0<=smokeV s/\smokeV s<=900000000
theorem sta_bd {s:StaS} (h:StaOk s):StaBd s:=by
 have h1:=h.w
 have h2:=h.c
 have h3:=h.n
 have d:100<=dryV s/\dryV s<=1000:=by simp only [dryV];omega
 have dc:=mul_bd (A:=1000) (B:=1000) (a:=dryV s) (b:=s.2.1) ⟨by omega,by omega⟩ h2
 have db:=mul_bd (A:=1000) (B:=1000) (a:=dryV s) (b:=1000 - s.2.1) ⟨by omega,by omega⟩ ⟨by omega,by omega⟩
 have b:=mul_bd (A:=dryV s*(1000 - s.2.1)) (B:=1000) (a:=dryV s*(1000 - s.2.1)) (b:=1000 - s.2.2) ⟨db.1,Int.le_refl _⟩ ⟨by omega,by omega⟩
 have m:=mul_bd (A:=1000000) (B:=900) (a:=dryV s*(1000 - s.2.1)) (b:=s.2.2) ⟨db.1,by omega⟩ h3
 refine ⟨d,⟨dc.1,by omega⟩,⟨db.1,by omega⟩,?_,b,⟨m.1,by simp only [smokeV];omega⟩⟩
 rw [<-Int.mul_add];congr 1;omega
theorem coal_bd {s:StaS} (h:StaOk s):0<=coalV s/\coalV s<=1000000000:=by
 have B:=sta_bd h
 have h1:=B.dc
 simp only [coalV];omega
theorem zgc {s:StaS} (h:StaOk s):0<=bakedV s/\bakedV s<=1000000000:=by
 have B:=sta_bd h
 have h1:=B.b
 have h2:=B.db
 omega
theorem lead_bd {s:StaS} (h:StaOk s):0<=leadV s/\leadV s<=1000000000:=by
 have B:=sta_bd h
 have h1:=B.b
 have h2:=B.sum
 have h3:=B.dc
 have h4:=B.d
 simp only [leadV,coalV];omega
theorem over_bd {s:StaS} (h:StaOk s) {n:Int} (h0:0<=n) (h1:n<=1000):(0<=n*leadV s/\n*leadV s<=most12)/\-most12<=overV n s/\overV n s<=most12:=by
 have h2:=coal_bd h
 have h3:=lead_bd h
 have m:=mul_bd (A:=1000) (B:=1000000000) (a:=n) (b:=leadV s) ⟨h0,h1⟩ h3
 simp only [overV,most12];omega
theorem v127 (x:StaS) (h:k127.pre x):V127 x:=by
 have h:StaOk x:=h
 have h1:=h.w
 exact ⟨by simp only [Z.in64];omega,rfl⟩
theorem v55 (x:StaS) (h:k55.pre x):V55 x:=by
 have h:StaOk x:=h
 have B:=sta_bd h
 have h1:=B.dc
 refine ⟨h,?_,?_,rfl⟩
 ·show Z.in64 (dryV x*x.2.1)
  simp only [Z.in64];omega
 ·show Z.in64 (dryV x*x.2.1*1000)
  simp only [Z.in64];omega
theorem v54 (x:StaS) (h:k54.pre x):V54 x:=by
 have h:StaOk x:=h
 have h1:=h.w
 exact ⟨by simp only [Z.in64];omega,by simp only [Z.in64];omega,rfl⟩
theorem v56 (x:StaS) (h:k56.pre x):V56 x:=by
 have h:StaOk x:=h
 have B:=sta_bd h
 have h1:=B.db
 have h2:=B.m
 have h3:=h.c
 refine ⟨h,by simp only [Z.in64];omega,?_,?_,rfl⟩
 ·show Z.in64 (dryV x*(1000 - x.2.1))
  simp only [Z.in64];omega
 ·show Z.in64 (smokeV x)
  simp only [Z.in64];omega
theorem v57 (x:StaS) (h:k57.pre x):V57 x:=by
 have h:StaOk x:=h
 have B:=sta_bd h
 have h1:=B.db
 have h2:=B.b
 have h3:=h.c
 have h4:=h.n
 refine ⟨h,by simp only [Z.in64];omega,?_,by simp only [Z.in64];omega,?_,rfl⟩
 ·show Z.in64 (dryV x*(1000 - x.2.1))
  simp only [Z.in64];omega
 ·show Z.in64 (bakedV x)
  simp only [Z.in64];omega
theorem v58 (x:StaS) (h:k58.pre x):V58 x:=by
 have h:StaOk x:=h
 have:=lead_bd h
 refine ⟨h,h,?_,rfl⟩
 show Z.in64 (leadV x)
 simp only [Z.in64];omega
theorem v130 (x:StaS × Int) (hp:k130.pre x):V130 x:=by
 obtain ⟨h,h0,h1⟩:StaOk x.1/\0<=x.2/\x.2<=1000:=hp
 have hc:=coal_bd h
 obtain ⟨h2,h3⟩:=over_bd h h0 h1
 simp only [most12] at h2 h3
 refine ⟨h,?_,h,?_,?_,rfl⟩
 ·show Z.in64 (1000*coalV x.1)
  simp only [Z.in64];omega
 ·show Z.in64 (x.2*leadV x.1)
  simp only [Z.in64];omega
 ·show Z.in64 (overV x.2 x.1)
  simp only [Z.in64];omega
theorem v129 (x:StaS × Int) (h:k129.pre x):V129 x:=⟨h,rfl⟩
theorem zgV {n d:Int} (hd:0<d):(ydA n d<0->ydv n d - 1=n / d)/\(¬ ydA n d<0->ydv n d=n / d):=by
 have e1:=Int.mul_tdiv_add_tmod n d
 have h1:-d<ydA n d:=by
  have:=ydE (-n) hd
  rw [Int.neg_tmod] at this;omega
 have h2:=ydE n hd
 constructor
 ·intro h
  refine ((ydF (r:=ydA n d+d) (q:=ydv n d - 1) hd).2 ⟨?_,by omega,by omega⟩).1.symm
  rw [Int.mul_sub];omega
 ·intro h
  exact ((ydF (r:=ydA n d) (q:=ydv n d) hd).2 ⟨by omega,by omega,by omega⟩).1.symm
theorem v60 (x:Int × Int) (h:k60.pre x):V60 x:=by
 obtain ⟨⟨h1,h2⟩,h3,h4⟩:(1<=x.2/\x.2<=1000000000)/\-9000000000000000000<=x.1/\x.1<=9000000000000000000:=h
 have hb:=ydz x.1 x.2
 obtain ⟨f1,f2⟩:=zgV (n:=x.1) (d:=x.2) (by omega)
 refine ⟨⟨by omega,by simp only [Z.in64];omega⟩,by omega,fun h=>⟨by simp only [Z.in64];omega,f1 (of_decide_eq_true h)⟩,fun h=>f2 (of_decide_eq_false h)⟩
theorem ediv_bd {n d:Int} (hd:0<d):-(n.natAbs:Int) - 1<=n / d/\n / d<=(n.natAbs:Int):=by
 have hb:=ydz n d
 obtain ⟨f1,f2⟩:=zgV (n:=n) hd
 by_cases h:ydA n d<0
 ·have:=f1 h;omega
 ·have:=f2 h;omega
theorem v61 (x:Int × Int) (h:k61.pre x):V61 x:=by
 obtain ⟨⟨h1,h2⟩,h3,h4⟩:(1<=x.2/\x.2<=1000000000)/\-9000000000000000000<=x.1/\x.1<=9000000000000000000:=h
 have hb:=ediv_bd (n:=-x.1) (d:=x.2) (by omega)
 refine ⟨by simp only [Z.in64];omega,⟨⟨h1,h2⟩,by show _<=-x.1;omega,by show -x.1<=_;omega⟩,?_,rfl⟩
 show Z.in64 (-((-x.1) / x.2))
 simp only [Z.in64];omega
theorem v18 (x:Int × Int) (h:k18.pre x):V18 x:=by
 have h:FraOk x:=h
 have h1:=h.under
 have h2:=h.top
 have hb:=ydz (x.1+x.2 - 1) x.2
 exact ⟨by simp only [Z.in64];omega,by simp only [Z.in64];omega,⟨by omega,by simp only [Z.in64];omega⟩,rfl⟩
theorem v19 (x:Int × Int) (h:k19.pre x):V19 x:=by
 have h:FraOk x:=h
 have h1:=h.under
 have h2:=h.top
 have hb:=ydz x.1 x.2
 exact ⟨⟨by omega,by simp only [Z.in64];omega⟩,rfl⟩
theorem v9 (x:List SackS) (h:k9.pre x):V9 x:=by
 have h:x.length<=big47:=h
 simp only [big47] at h
 refine ⟨fun s=>(0<=s/\s<=(x.length:Int))/\x.all sackB=(x.drop s.toNat).all sackB,fun s=>((x.length:Int) - s).toNat,⟨⟨by omega,by omega⟩,rfl⟩,?_⟩
 rintro i ⟨⟨i0,i1⟩,e⟩
 refine ⟨fun hd=>?_,fun hd=>?_⟩
 ·have hd:i<(x.length:Int):=of_decide_eq_true hd
  rw [zkt sackB x zSa i i0 hd] at e
  have hs:(((!(zaq ((x.getD (yby i) zSa).1,0,900)))||(!(zaq ((x.getD (yby i) zSa).2.1,0,1000))))||(!(zaq ((x.getD (yby i) zSa).2.2,0,900))))=!sackB (x.getD i.toNat zSa):=by
   show (((!spanB _ 0 900)||(!spanB _ 0 1000))||(!spanB _ 0 900))=_
   simp only [sackB,ydC,ydD]
  refine ⟨⟨i0,hd⟩,trivial,fun _=>⟨i0,hd⟩,fun _=>trivial,fun _=>⟨i0,hd⟩,fun _=>trivial,fun hh=>?_,fun hh=>⟨by simp only [Z.in64];omega,⟨⟨by omega,by omega⟩,?_⟩,by show ((x.length:Int) - (i+1)).toNat<((x.length:Int) - i).toNat;omega⟩⟩
  ·have hh:=not_iff.1.1 (hs.symm.trans hh)
   rw [hh,ydG] at e
   show false=sacksB x
   rw [sacksB,e,ydH]
  ·have hh:=not_iff.2.1 (hs.symm.trans hh)
   rw [hh,yck] at e
   exact e
 ·have hd:¬ i<(x.length:Int):=of_decide_eq_false hd
  rw [ydc (by omega)] at e
  show decide _=sacksB x
  rw [sacksB,e];simp
theorem v10 (x:(List SackS) × List TakeS) (hp:k10.pre x):V10 x:=by
 obtain ⟨h1,h⟩:x.1.length<=8/\x.2.length<=big47:=hp
 simp only [big47] at h
 refine ⟨fun s=>(0<=s/\s<=(x.2.length:Int))/\x.2.all (takeB (x.1.length:Int))=(x.2.drop s.toNat).all (takeB (x.1.length:Int)),fun s=>((x.2.length:Int) - s).toNat,⟨⟨by omega,by omega⟩,rfl⟩,?_⟩
 rintro i ⟨⟨i0,i1⟩,e⟩
 refine ⟨fun hd=>?_,fun hd=>?_⟩
 ·have hd:i<(x.2.length:Int):=of_decide_eq_true hd
  rw [zkt _ x.2 zTa i i0 hd] at e
  have hs:((!(zcG ((x.2.getD (yby i) zTa).1,0,((x.1.length:Int) - 1))))||(!(zaq ((x.2.getD (yby i) zTa).2,1,100000))))=!takeB (x.1.length:Int) (x.2.getD i.toNat zTa):=by
   show ((!inB _ 0 _)||(!spanB _ 1 100000))=_
   simp only [takeB,ydC]
  refine ⟨⟨i0,hd⟩,by simp only [Z.in64];omega,trivial,fun _=>⟨i0,hd⟩,fun _=>trivial,fun hh=>?_,fun hh=>⟨by simp only [Z.in64];omega,⟨⟨by omega,by omega⟩,?_⟩,by show ((x.2.length:Int) - (i+1)).toNat<((x.2.length:Int) - i).toNat;omega⟩⟩
  ·have hh:=not_iff.1.1 (hs.symm.trans hh)
   rw [hh,ydG] at e
   show false=batchB x.1 x.2
   rw [batchB,e,ydH]
  ·have hh:=not_iff.2.1 (hs.symm.trans hh)
   rw [hh,yck] at e
   exact e
 ·have hd:¬ i<(x.2.length:Int):=of_decide_eq_false hd
  rw [ydc (by omega)] at e
  refine ⟨trivial,?_⟩
  show inB _ 1 8=batchB x.1 x.2
  rw [batchB,e];simp
end Go.Tt
/-
 Sack: what a sack can be,what it adds,sums over a batch.
-/
namespace Go.Tt
open Go Go.Sx
theorem cor_len (x:StoS):(corS x).length=8:=by simp [corS]
theorem zmB {x:StoS} {n:Nat} (h:n<8):(corS x).take (n+1)=(corS x).take n++[corN x.1 n]:=by
 rw [ydI (by rw [cor_len];exact h)]
 simp [corS]
theorem zlQ {x:StoS} {n:Nat} (h:n<8):corS x=(corS x).take n++(corN x.1 n::(corS x).drop (n+1)):=by
 have e:(corS x).drop n=corN x.1 n::(corS x).drop (n+1):=by
  rw [List.drop_eq_getElem_cons (by rw [cor_len];exact h)]
  simp [corS]
 rw [<-e,List.take_append_drop]
theorem cor_at (x:SackS) {a b c:Nat} (ha:a<2) (hb:b<2) (hc:c<2) :
  (((((yaa 2 (0:Int)).set 0 x.1.1).set 1 x.1.2).getD (yby (a:Int)) 0),((((yaa 2 (0:Int)).set 0 x.2.1.1).set 1 x.2.1.2).getD (yby (b:Int)) 0),((((yaa 2 (0:Int)).set 0 x.2.2.1).set 1 x.2.2.2).getD (yby (c:Int)) 0))=corN x (4*a+2*b+c):=by
 have h1:a=0\/a=1:=by omega
 have h2:b=0\/b=1:=by omega
 have h3:c=0\/c=1:=by omega
 rcases h1 with rfl | rfl<;>rcases h2 with rfl | rfl<;>rcases h3 with rfl | rfl<;>rfl
theorem v202 (ly:Nat) (x:StoS) (_:zbA x):V202 ly x:=by
 have hval:zaJ x=corS x:=rfl
 simp only [V202,hval]
 refine ⟨fun s=>∃ a:Nat,s.1=(a:Int)/\a<=2/\s.2.1=(corS x).take (4*a)/\s.2.2=false,fun s=>(2 - s.1).toNat,⟨0,rfl,by omega,rfl,rfl⟩,?_⟩
 rintro ⟨i,l,d⟩ ⟨a,ea,ha,el,ed⟩
 simp only at ea el ed
 subst ea ed
 refine ⟨fun hd=>?_,fun hd _=>?_⟩
 ·have hd:(a:Int)<2:=of_decide_eq_true hd
  refine ⟨⟨by show (0:Int)<=(a:Int);omega,hd⟩,fun s=>∃ b:Nat,s.1=(b:Int)/\b<=2/\s.2.1=(corS x).take (4*a+2*b)/\s.2.2=false,fun s=>(2 - s.1).toNat,⟨0,rfl,by omega,el,rfl⟩,?_⟩
  rintro ⟨i,l2,d⟩ ⟨b,eb,hb,el2,ed⟩
  simp only at eb el2 ed
  subst eb ed
  refine ⟨fun hd2=>?_,fun hd2=>?_⟩
  ·have hd2:(b:Int)<2:=of_decide_eq_true hd2
   refine ⟨⟨by show (0:Int)<=(b:Int);omega,hd2⟩,fun s=>∃ c:Nat,s.1=(c:Int)/\c<=2/\s.2.1=(corS x).take (4*a+2*b+c)/\s.2.2=false,fun s=>(2 - s.1).toNat,⟨0,rfl,by omega,el2,rfl⟩,?_⟩
   rintro ⟨i,l3,d⟩ ⟨c,ec,hc,el3,ed⟩
   simp only at ec el3 ed
   subst ec ed
   refine ⟨fun hd3=>?_,fun hd3=>?_⟩
   ·have hd3:(c:Int)<2:=of_decide_eq_true hd3
    simp only [cor_at x.1 (a:=a) (b:=b) (c:=c) (by omega) (by omega) (by omega)]
    have h8:4*a+2*b+c<8:=by omega
    refine ⟨⟨by show (0:Int)<=(c:Int);omega,hd3⟩,trivial,trivial,trivial,trivial,trivial,⟨by first | rfl | trivial,by first | rfl | trivial⟩,⟨(corS x).drop (4*a+2*b+c+1),?_⟩,⟨trivial,(fun h=>by simp at h),fun _=>⟨by simp only [Z.in64];omega,⟨c+1,rfl,by omega,?_,by first | rfl | trivial⟩,?_⟩⟩,trivial,(fun _ h=>by simp at h),(fun h=>by simp at h)⟩
    ·show corS x=l3++_
     rw [el3];exact zlQ h8
    ·show l3++_=_
     rw [el3,<-Nat.add_assoc,zmB h8]
    ·show (2 - ((c:Int)+1)).toNat<(2 - (c:Int)).toNat
     omega
   ·have hd3:¬ (c:Int)<2:=of_decide_eq_false hd3
    have:c=2:=by omega
    subst this
    exact ⟨by simp only [Z.in64];omega,⟨b+1,rfl,by omega,by show l3=_;rw [el3];congr 1,rfl⟩,by show (2 - ((b:Int)+1)).toNat<(2 - (b:Int)).toNat;omega⟩
  ·have hd2:¬ (b:Int)<2:=of_decide_eq_false hd2
   have:b=2:=by omega
   subst this
   exact ⟨by simp only [Z.in64];omega,⟨a+1,rfl,by omega,by show l2=_;rw [el2];congr 1,rfl⟩,by show (2 - ((a:Int)+1)).toNat<(2 - (a:Int)).toNat;omega⟩
 ·have hd:¬ (a:Int)<2:=of_decide_eq_false hd
  have:a=2:=by omega
  subst this
  show l=corS x
  rw [el,ydJ (by rw [cor_len];omega)]
theorem v177 (x:StoS) (_:k177.pre x):V177 x:=rfl
theorem sack_of {s:SackS} (h:sackB s=true):(0<=s.1.1/\s.1.1<=s.1.2/\s.1.2<=900)/\(0<=s.2.1.1/\s.2.1.1<=s.2.1.2/\s.2.1.2<=1000)/\(0<=s.2.2.1/\s.2.2.1<=s.2.2.2/\s.2.2.2<=900):=by
 simp only [sackB,yac,zeT] at h
 exact ⟨h.1,h.2.1,h.2.2⟩
theorem end_bd {s:Span} {b:Int} (h:0<=s.1/\s.1<=s.2/\s.2<=b) (k:Nat):0<=endS s k/\endS s k<=b:=by
 rw [endS]
 cases (k==0) with
 | true=>rw [cond_true];omega
 | false=>rw [cond_false];omega
theorem cor_ok {x:StoS} (h:sackB x.1=true):∀ s∈corS x,StaOk s:=by
 intro s hs
 obtain ⟨i,_,rfl⟩:=ycp.1 hs
 obtain ⟨h1,h2,h3⟩:=sack_of h
 exact ⟨end_bd h1 _,end_bd h2 _,end_bd h3 _⟩
theorem low_hig {w:Span} {n:Int} (hw:(0<=w.1/\w.1<=w.2)/\w.2<=800000) (hn:-most12<=n/\n<=most12):(-800000000000000000<=w.1*n/\w.1*n<=800000000000000000)/\(-800000000000000000<=w.2*n/\w.2*n<=800000000000000000):=by
 have h1:=mul_sb (A:=800000) (B:=1000000000000) (a:=w.1) (b:=n) ⟨hw.1.1,by omega⟩ (by simp only [most12] at hn;omega)
 have h2:=mul_sb (A:=800000) (B:=1000000000000) (a:=w.2) (b:=n) ⟨by omega,hw.2⟩ (by simp only [most12] at hn;omega)
 omega
theorem v128 (x:StoS × Fun StaS Int) (hp:k128.pre x):V128 x:=by
 obtain ⟨hs,hF⟩:StoOk x.1/\FunOk x.2:=hp
 have hc:=cor_ok hs.sack
 refine ⟨trivial,trivial,fun r s=>(∀ e∈r,StaOk e)/\(r.map x.2.val).foldl (addS x.1.2) s=((corS x.1).map x.2.val).foldl (addS x.1.2) ((0,0),true),⟨hc,rfl⟩,?_,?_⟩
 ·rintro e r ⟨s,d⟩ ⟨h1,h2⟩
  obtain ⟨f1,f2⟩:=hF e (h1 e yam)
  obtain ⟨g1,g2⟩:=low_hig hs.wt f2
  rw [ybB,ybD] at h2
  refine ⟨f1,?_,?_,?_,?_,fun hd=>⟨fun e' h=>h1 e' (yal _ h),?_⟩,fun hd=>⟨fun e' h=>h1 e' (yal _ h),?_⟩⟩
  ·simp only [Z.in64];omega
  ·simp only [Z.in64];omega
  ·simp only [Z.in64];omega
  ·simp only [Z.in64];omega
  ·have hd:d=true:=hd
   subst hd
   exact h2
  ·have hd:d=false:=hd
   subst hd
   exact h2
 ·rintro s ⟨_,h2⟩
  show s.1=addsV _ _
  rw [addsV,<-h2];rfl
end Go.Tt
/-
 Sack: sums over a batch;a batch out of what was taken.
-/
namespace Go.Tt
open Go Go.Sx
structure AddIs (w:Span) (l:List Int) (s:Span):Prop where
 lo:∀ n∈l,s.1<=lowV w n
 hi:∀ n∈l,higV w n<=s.2
 lm:∃ n∈l,s.1=lowV w n
 hm:∃ n∈l,s.2=higV w n
theorem zkv (w:Span):∀ (l p:List Int) (s:Span),AddIs w p s->∃ s',l.foldl (addS w) (s,false)=(s',false)/\AddIs w (p++l) s'
 | [],p,s,h=>⟨s,rfl,by rw [List.append_nil];exact h⟩
 | a::l,p,s,h=>by
  have h':AddIs w (p++[a]) (min s.1 (lowV w a),max s.2 (higV w a)):=by
   refine ⟨fun n hn=>?_,fun n hn=>?_,?_,?_⟩
   ·show min s.1 (lowV w a)<=_
    rcases yas.1 hn with hn | hn
    ·have:=h.lo n hn;omega
    ·rw [yat.1 hn];omega
   ·show _<=max s.2 (higV w a)
    rcases yas.1 hn with hn | hn
    ·have:=h.hi n hn;omega
    ·rw [yat.1 hn];omega
   ·obtain ⟨n,hn,e⟩:=h.lm
    by_cases g:s.1<=lowV w a
    ·exact ⟨n,yas.2 (.inl hn),by show min s.1 (lowV w a)=_;omega⟩
    ·exact ⟨a,by simp,by show min s.1 (lowV w a)=_;omega⟩
   ·obtain ⟨n,hn,e⟩:=h.hm
    by_cases g:higV w a<=s.2
    ·exact ⟨n,yas.2 (.inl hn),by show max s.2 (higV w a)=_;omega⟩
    ·exact ⟨a,by simp,by show max s.2 (higV w a)=_;omega⟩
  obtain ⟨s',e,g⟩:=zkv w l (p++[a]) _ h'
  exact ⟨s',e,by rw [List.append_assoc] at g;exact g⟩
theorem adds_is (w:Span) {l:List Int} (h:l≠[]):AddIs w l (addsV w l):=by
 match l,h with
 | a::l,_ =>
  have h0:AddIs w [a] (min (lowV w a) (lowV w a),max (higV w a) (higV w a)):=by
   refine ⟨fun n hn=>?_,fun n hn=>?_,⟨a,by simp,?_⟩,⟨a,by simp,?_⟩⟩
   ·rw [yat.1 hn];show min _ _<=_;omega
   ·rw [yat.1 hn];show _<=max _ _;omega
   ·show min _ _=_;omega
   ·show max _ _=_;omega
  obtain ⟨s',e,g⟩:=zkv w l [a] _ h0
  have:addsV w (a::l)=s':=by
   rw [addsV,ybD]
   show (l.foldl (addS w) ((min (lowV w a) (lowV w a),max (higV w a) (higV w a)),false)).1=s'
   rw [e]
  rw [this];exact g
theorem cor_ne (x:StoS) (f:StaS->Int):(corS x).map f≠[]:=by
 intro h
 have:=congrArg List.length h
 simp [corS] at this
abbrev top18:Int:=800000000000000000
theorem adds_bd {x:StoS} (h:StoOk x) {f:StaS->Int} (hf:∀ s,StaOk s->-most12<=f s/\f s<=most12):(-top18<=(addsV x.2 ((corS x).map f)).1/\(addsV x.2 ((corS x).map f)).1<=top18)/\(-top18<=(addsV x.2 ((corS x).map f)).2/\(addsV x.2 ((corS x).map f)).2<=top18):=by
 have A:=adds_is x.2 (cor_ne x f)
 have hc:=cor_ok h.sack
 have key:∀ n∈(corS x).map f,(-top18<=lowV x.2 n/\lowV x.2 n<=top18)/\(-top18<=higV x.2 n/\higV x.2 n<=top18):=by
  intro n hn
  obtain ⟨s,hs,rfl⟩:=ycp.1 hn
  have:=low_hig h.wt (hf s (hc s hs))
  simp only [lowV,higV,top18];omega
 obtain ⟨n,hn,e⟩:=A.lm
 obtain ⟨m,hm,e2⟩:=A.hm
 rw [e,e2]
 exact ⟨(key n hn).1,(key m hm).2⟩
theorem part_bd {b:BatS} (hb:BatOk b) {f:StaS->Int} (hf:∀ s,StaOk s->-most12<=f s/\f s<=most12) (k:Nat):(-top18<=(partS b f k).1/\(partS b f k).1<=top18)/\(-top18<=(partS b f k).2/\(partS b f k).2<=top18):=by
 rw [partS]
 cases e:b (k:Nat) with
 | none=>simp
 | some v=>exact adds_bd (hb.val _ v e) hf
theorem zhA {f:Nat->Int} (h:∀ k,-top18<=f k/\f k<=top18):-6400000000000000000<=sumN 8 f/\sumN 8 f<=6400000000000000000:=by
 simp only [zau,zdU,top18] at *
 have h0:=h 0
 have h1:=h 1
 have h2:=h 2
 have h3:=h 3
 have h4:=h 4
 have h5:=h 5
 have h6:=h 6
 have h7:=h 7
 omega
def metK (t:Int) (l:List (Int × StoS)):Bool:=l.any fun p=>p.1==t
def metU (f:Nat->Int) (l:List (Int × StoS)):Int:=sumN 8 fun t=>cond (metK (t:Nat) l) (f t) 0
theorem ziN {f:Nat->Int} {k1:Int} {v:StoS} {l:List (Int × StoS)} (h1:0<=k1/\k1<8) (hn:metK k1 l=false):metU f ((k1,v)::l)=metU f l+f k1.toNat:=by
 obtain ⟨m,rfl⟩:=ydw h1.1
 have hm:m<8:=by omega
 have e:=zjP (n:=8) (k:=m) (f:=fun t=>cond (metK (t:Nat) (((m:Int),v)::l)) (f t) 0) (g:=fun t=>cond (metK (t:Nat) l) (f t) 0) (fun i _ hi=>by
  have:(((m:Nat):Int)==((i:Nat):Int))=false:=by
   rw [beq_eq_false_iff_ne];omega
  simp only [metK,ydr,this,ydK])
 rw [if_pos hm] at e
 rw [metU,e,metU]
 have h2:metK (m:Int) (((m:Int),v)::l)=true:=by simp [metK]
 simp only [h2,hn,cond_true,cond_false,ydx]
 omega
theorem metU_bd {f:Nat->Int} (h:∀ k,-top18<=f k/\f k<=top18) (l:List (Int × StoS)):-6400000000000000000<=metU f l/\metU f l<=6400000000000000000:=by
 refine zhA fun k=>?_
 cases metK (k:Nat) l with
 | true=>exact h k
 | false=>simp
def unmetK (l:List (Int × StoS)):Nat:=(yaf 8).countP fun t=>!metK (t:Nat) l
theorem zjq {k1:Int} {v:StoS} {l:List (Int × StoS)} (h1:0<=k1/\k1<8) (hn:metK k1 l=false):unmetK ((k1,v)::l)<unmetK l:=by
 obtain ⟨m,rfl⟩:=ydw h1.1
 have hm:m<8:=by omega
 refine zjf (a:=m) (List.mem_range.2 hm) (fun b _ hb=>?_) (by rw [hn];rfl) (by simp [metK])
 simp only [metK,ydr,Bool.not_or,yac] at hb
 exact hb.2
theorem notmetK {t:Int} {l:List (Int × StoS)} (h:∀ p,List.Mem p l->p.1=t->False):metK t l=false:=by
 rw [metK,ydL]
 intro p hp he
 exact h p hp (eq_of_beq he)
theorem v59 (x:BatS × Fun StaS Int) (hp:k59.pre x):V59 x:=by
 obtain ⟨hb,hF⟩:BatOk x.1/\FunOk x.2:=hp
 have hf:∀ s,StaOk s->-most12<=x.2.val s/\x.2.val s<=most12:=fun s h=>(hF s h).2
 have hq:=part_bd hb hf
 refine ⟨fun s=>s.2.1=x.1/\s.1=(metU (fun k=>(partS x.1 x.2.val k).1) s.2.2,metU (fun k=>(partS x.1 x.2.val k).2) s.2.2),fun s=>unmetK s.2.2,⟨rfl,?_⟩,?_⟩
 ·show ((0:Int),(0:Int))=(sumN 8 fun _=>0,sumN 8 fun _=>0)
  rw [zel]
 rintro ⟨⟨n1,n2⟩,k,l⟩ ⟨e1,e2⟩
 simp only [Prod.mk.injEq] at e1 e2
 subst e1
 obtain ⟨e2,e3⟩:=e2
 refine ⟨fun k1 v2 hv hn=>⟨trivial,fun _=>?_,(fun h=>by cases h)⟩,fun hall=>⟨trivial,(fun h=>by cases h),fun _=>?_⟩⟩
 ·have hv:x.1 k1=some v2:=hv
  have h8:=hb.key _ _ hv
  have hm:=notmetK hn
  have hpa:partS x.1 x.2.val k1.toNat=addsV v2.2 ((corS v2).map x.2.val):=by
   rw [partS,show ((k1.toNat:Nat):Int)=k1 by omega,hv]
  have c1:=ziN (f:=fun k=>(partS x.1 x.2.val k).1) (v:=v2) h8 hm
  have c2:=ziN (f:=fun k=>(partS x.1 x.2.val k).2) (v:=v2) h8 hm
  have b1:=metU_bd (f:=fun k=>(partS x.1 x.2.val k).1) (fun k=>(hq k).1) ((k1,v2)::l)
  have b2:=metU_bd (f:=fun k=>(partS x.1 x.2.val k).2) (fun k=>(hq k).2) ((k1,v2)::l)
  simp only [hpa] at c1 c2
  rw [<-e2] at c1
  rw [<-e3] at c2
  refine ⟨⟨by omega,by simp⟩,⟨hb.val _ _ hv,hF⟩,?_,?_,⟨rfl,?_⟩,?_⟩
  ·show Z.in64 (n1+(addsV v2.2 ((corS v2).map x.2.val)).1)
   simp only [Z.in64];omega
  ·show Z.in64 (n2+(addsV v2.2 ((corS v2).map x.2.val)).2)
   simp only [Z.in64];omega
  ·show (n1+(addsV v2.2 ((corS v2).map x.2.val)).1,n2+(addsV v2.2 ((corS v2).map x.2.val)).2)=_
   rw [<-c1,<-c2]
  ·exact zjq h8 hm
 ·show (n1,n2)=sumS x.1 x.2.val
  have key:∀ f:Nat->Int,(∀ t:Nat,x.1 (t:Nat)=none->f t=0)->metU f l=sumN 8 f:=by
   intro f h0
   rw [metU]
   refine zem fun t _=>?_
   cases hm:metK (t:Nat) l with
   | true=>rfl
   | false =>
    cases e:x.1 (t:Nat) with
    | none=>rw [h0 t e];rfl
    | some v =>
     obtain ⟨p,hp,hp1⟩:=hall (t:Nat) v e
     exfalso
     rw [metK,ydL] at hm
     exact hm p hp (by rw [hp1];exact beq_self_eq_true _)
  rw [e2,e3,sumS,key _ fun t e=>by rw [partS,e],key _ fun t e=>by rw [partS,e]]
theorem zme {n:Int} (h0:0<=n) (h1:n<=1000) (F:Fun StaS Int) (hv:F.val=overV n) (hp:∀ s,StaOk s->F.pre s):FunOk F:=fun s hs=>⟨hp s hs,by rw [hv];exact (over_bd hs h0 h1).2⟩
theorem v64 (x:BatS × Int) (hp:k64.pre x):V64 x:=by
 obtain ⟨hb,h0,h1⟩:BatOk x.1/\0<=x.2/\x.2<=1000:=hp
 exact ⟨⟨hb,zme h0 h1 _ rfl fun s hs=>⟨hs,h0,h1⟩⟩,rfl⟩
theorem v63 (x:Int × BatS) (hp:k63.pre x):V63 x:=⟨hp,rfl⟩
theorem v65 (x:Int × BatS) (hp:k65.pre x):V65 x:=⟨hp,rfl⟩
def keyB (k:Int) (t:TakeS):Bool:=t.1==k
def wSum (p:TakeS->Int) (k:Int) (b:List TakeS):Int:=(b.map fun t=>cond (keyB k t) (p t) 0).sum
theorem zdu {p:TakeS->Int} {k:Int}:∀ {b:List TakeS},b.any (keyB k)=false->wSum p k b=0
 | [],_=>rfl
 | t::b,h=>by
  rw [ydr,ydM] at h
  have:=zdu (p:=p) h.2
  rw [wSum,ybB,List.sum_cons,h.1,cond_false,ydN];exact this
theorem zka (l:List SackS) (k:Int):∀ (b:List TakeS) (K:BatS),b.foldl (putK l) K k=cond (b.any (keyB k)) (some (l.getD k.toNat zSa,((K k).getD zSt).2.1+wSum (fun t=>t.2.1) k b,((K k).getD zSt).2.2+wSum (fun t=>t.2.2) k b)) (K k)
 | [],K=>rfl
 | t::b,K=>by
  have ih:=zka l k b (putK l K t)
  rw [ybD,ih,ydr]
  have hput:putK l K t k=cond (k==t.1) (some (l.getD t.1.toNat zSa,((K t.1).getD zSt).2.1+t.2.1,((K t.1).getD zSt).2.2+t.2.2)) (K k):=rfl
  have hw:∀ p:TakeS->Int,wSum p k (t::b)=cond (keyB k t) (p t) 0+wSum p k b:=fun p=>rfl
  rw [hw,hw]
  by_cases e:t.1=k
  ·subst e
   have h1:(t.1==t.1)=true:=beq_self_eq_true _
   have h2:keyB t.1 t=true:=beq_self_eq_true _
   rw [h1,cond_true] at hput
   rw [h2,hput]
   simp only [Bool.true_or,cond_true,Option.getD_some]
   cases hb:b.any (keyB t.1) with
   | true=>simp only [cond_true,Int.add_assoc]
   | false=>simp only [cond_false,zdu hb,Int.add_zero]
  ·have h1:(k==t.1)=false:=by rw [beq_eq_false_iff_ne];exact fun h=>e h.symm
   have h2:keyB k t=false:=by rw [keyB,beq_eq_false_iff_ne];exact e
   rw [h1,cond_false] at hput
   rw [h2,hput]
   simp only [ydK,cond_false,ydN]
theorem new_at (l:List SackS) (b:List TakeS) (k:Int):newK l b k=cond (b.any (keyB k)) (some (l.getD k.toNat zSa,wSum (fun t=>t.2.1) k b,wSum (fun t=>t.2.2) k b)) none:=by
 rw [newK,zka]
 cases b.any (keyB k) with
 | true=>simp
 | false=>rfl
theorem new_wt (l:List SackS) (b:List TakeS) (k:Int):((newK l b k).getD zSt).2=(wSum (fun t=>t.2.1) k b,wSum (fun t=>t.2.2) k b):=by
 rw [new_at]
 cases h:b.any (keyB k) with
 | true=>rfl
 | false=>rw [zdu h,zdu h];rfl
theorem take_of {n:Int} {t:TakeS} (h:takeB n t=true):(0<=t.1/\t.1<=n - 1)/\(1<=t.2.1/\t.2.1<=t.2.2/\t.2.2<=100000):=by
 simp only [takeB,yac,inB_iff,zeT] at h
 exact h
theorem wSum_bd {k:Int}:∀ {b:List TakeS},(∀ t∈b,1<=t.2.1/\t.2.1<=t.2.2/\t.2.2<=100000)->0<=wSum (fun t=>t.2.1) k b/\wSum (fun t=>t.2.1) k b<=wSum (fun t=>t.2.2) k b/\wSum (fun t=>t.2.2) k b<=100000*(b.length:Int)
 | [],_=>by simp [wSum]
 | t::b,h=>by
  obtain ⟨h1,h2,h3⟩:=wSum_bd (k:=k) (b:=b) fun t ht=>h t (yal _ ht)
  have ht:=h t yam
  have hw:∀ p:TakeS->Int,wSum p k (t::b)=cond (keyB k t) (p t) 0+wSum p k b:=fun p=>rfl
  rw [hw,hw,List.length_cons]
  cases keyB k t with
  | true=>simp only [cond_true];omega
  | false=>simp only [cond_false];omega
structure BatchIs (l:List SackS) (b:List TakeS):Prop where
 l8:l.length<=8
 b1:1<=b.length
 b8:b.length<=8
 sack:∀ s∈l,sackB s=true
 take:∀ t∈b,(0<=t.1/\t.1<=(l.length:Int) - 1)/\(1<=t.2.1/\t.2.1<=t.2.2/\t.2.2<=100000)
theorem zgb {l:List SackS} {b:List TakeS} (h1:sacksB l=true) (h2:batchB l b=true):BatchIs l b:=by
 simp only [sacksB,batchB,yac,decide_eq_true_eq,inB_iff,List.all_eq_true] at h1 h2
 exact ⟨by omega,by omega,by omega,h1.2,fun t ht=>take_of (h2.2 t ht)⟩
theorem new_ok {l:List SackS} {b:List TakeS} (h:BatchIs l b):BatOk (newK l b):=by
 have hw:=fun k=>wSum_bd (k:=k) fun t ht=>(h.take t ht).2
 have key:∀ t v,newK l b t=some v->(0<=t/\t<(l.length:Int))/\v=(l.getD t.toNat zSa,wSum (fun t=>t.2.1) t b,wSum (fun t=>t.2.2) t b):=by
  intro t v hv
  rw [new_at] at hv
  cases ha:b.any (keyB t) with
  | false=>rw [ha] at hv;cases hv
  | true =>
   rw [ha] at hv
   obtain ⟨y,hy,e⟩:=List.any_eq_true.1 ha
   have e:y.1=t:=eq_of_beq e
   have:=(h.take y hy).1
   exact ⟨by omega,(yaA hv).symm⟩
 have l8:=h.l8
 have b8:=h.b8
 refine ⟨fun t v hv=>?_,fun t v hv=>?_⟩
 ·have:=(key t v hv).1;omega
 ·obtain ⟨h1,rfl⟩:=key t v hv
  have:=hw t
  exact ⟨h.sack _ (zbv _ _ _ (by omega)),⟨⟨this.1,this.2.1⟩,by show wSum (fun t=>t.2.2) t b<=800000;omega⟩⟩
theorem v53 (x:(List SackS) × List TakeS) (hp:k53.pre x):V53 x:=by
 have B:BatchIs x.1 x.2:=zgb hp.1 hp.2
 have b8:=B.b8
 refine ⟨fun s=>∃ i:Nat,s.1=(i:Int)/\i<=x.2.length/\s.2=newK x.1 (x.2.take i),fun s=>((x.2.length:Int) - s.1).toNat,⟨0,rfl,Nat.zero_le _,rfl⟩,?_⟩
 rintro ⟨i',K⟩ ⟨i,ei,hi,eK⟩
 simp only at ei eK
 subst ei eK
 refine ⟨fun hd=>?_,fun hd=>?_⟩
 ·have hd:(i:Int)<(x.2.length:Int):=of_decide_eq_true hd
  have hil:i<x.2.length:=by omega
  have ht:=B.take _ (zbv x.2 (0,0,0) i hil)
  have hw:=wSum_bd (k:=(x.2.getD i (0,0,0)).1) (b:=x.2.take i) fun t ht=>(B.take t (List.mem_of_mem_take ht)).2
  have hlen:(x.2.take i).length<=8:=by rw [List.length_take];omega
  have hwt:=new_wt x.1 (x.2.take i) (x.2.getD i (0,0,0)).1
  have w1:((newK x.1 (x.2.take i) (x.2.getD i (0,0,0)).1).getD (((0,0),(0,0),0,0),0,0)).2.1=wSum (fun t=>t.2.1) (x.2.getD i (0,0,0)).1 (x.2.take i):=congrArg Prod.fst hwt
  have w2:((newK x.1 (x.2.take i) (x.2.getD i (0,0,0)).1).getD (((0,0),(0,0),0,0),0,0)).2.2=wSum (fun t=>t.2.2) (x.2.getD i (0,0,0)).1 (x.2.take i):=congrArg Prod.snd hwt
  simp only [ydx]
  refine ⟨⟨by omega,hd⟩,⟨ht.1.1,by omega⟩,?_,?_,by simp only [Z.in64];omega,⟨i+1,rfl,hil,?_⟩,?_⟩
  ·rw [w1];simp only [Z.in64];omega
  ·rw [w2];simp only [Z.in64];omega
  ·have e1:x.2.take (i+1)=x.2.take i++[x.2.getD i (0,0,0)]:=by
    rw [ydI hil];simp [yda,hil]
   have e2:newK x.1 (x.2.take (i+1))=putK x.1 (newK x.1 (x.2.take i)) (x.2.getD i (0,0,0)):=by
    rw [e1,newK,List.foldl_append];rfl
   exact e2.symm
  ·show ((x.2.length:Int) - ((i:Int)+1)).toNat<((x.2.length:Int) - (i:Int)).toNat
   omega
 ·have hd:¬ (i:Int)<(x.2.length:Int):=of_decide_eq_false hd
  show newK x.1 (x.2.take i)=newK x.1 x.2
  rw [ydJ (by omega)]
end Go.Tt
/-
 Sack: Weigh and Share. The reference of shade: the curve.
-/
namespace Go.Tt
open Go Go.Sx
theorem zmp {i:Nat} (h:i<5):FunOk (fun5.getD i zFun):=by
 have h5:i=0\/i=1\/i=2\/i=3\/i=4:=by omega
 rcases h5 with rfl | rfl | rfl | rfl | rfl<;>intro s hs
 ·refine ⟨hs,?_⟩
  show -most12<=dropsV s/\dropsV s<=most12
  have:=hs.w
  simp only [dropsV,most12];omega
 ·refine ⟨hs,?_⟩
  show -most12<=coalV s/\coalV s<=most12
  have:=coal_bd hs
  simp only [most12];omega
 ·refine ⟨hs,?_⟩
  show -most12<=smokeV s/\smokeV s<=most12
  have:=(sta_bd hs).m
  simp only [most12];omega
 ·refine ⟨hs,?_⟩
  show -most12<=bakedV s/\bakedV s<=most12
  have:=zgc hs
  simp only [most12];omega
 ·refine ⟨hs,?_⟩
  show -most12<=leadV s/\leadV s<=most12
  have:=lead_bd hs
  simp only [most12];omega
theorem sum_bd9 {b:BatS} (hb:BatOk b) {F:Fun StaS Int} (hF:FunOk F):(-6400000000000000000<=(sumS b F.val).1/\(sumS b F.val).1<=6400000000000000000)/\(-6400000000000000000<=(sumS b F.val).2/\(sumS b F.val).2<=6400000000000000000):=by
 have hq:=part_bd hb fun s h=>(hF s h).2
 exact ⟨zhA fun k=>(hq k).1,zhA fun k=>(hq k).2⟩
theorem zkh {l:List SackS} {b:List TakeS} (h:((!(zaO l))||(!(zbq (l,b))))=true):(sacksB l&&batchB l b)=false:=by
 have h:((!sacksB l)||(!batchB l b))=true:=h
 cases h1:sacksB l<;>cases h2:batchB l b<;>rw [h1,h2] at h<;>first | rfl | cases h
theorem ziU {l:List SackS} {b:List TakeS} (h:((!(zaO l))||(!(zbq (l,b))))=false):sacksB l=true/\batchB l b=true:=by
 have h:((!sacksB l)||(!batchB l b))=false:=h
 rw [ydM] at h
 exact ⟨not_iff.2.1 h.1,not_iff.2.1 h.2⟩
theorem zgk {l:List SackS} (h:(!(zaO l))=false):l.length<=8:=by
 have h:sacksB l=true:=not_iff.2.1 h
 simp only [sacksB,yac,decide_eq_true_eq] at h
 omega
theorem v13 (x:(List SackS) × List TakeS) (_:k13.pre x):V13 x:=by
 refine ⟨trivial,fun h=>zgk h,fun h=>?_,fun h=>?_⟩
 ·rw [zcd,zkh h];rfl
 obtain ⟨h1,h2⟩:=ziU h
 have hbat:=new_ok (zgb h1 h2)
 refine ⟨⟨h1,h2⟩,fun s=>∃ i:Nat,s.1=(i:Int)/\i<=5/\s.2.length=5/\∀ j,j<i->s.2.getD j (0,0)=prt5 x (j:Nat),fun s=>(5 - s.1).toNat,⟨0,rfl,by omega,by simp,fun j hj=>by omega⟩,?_⟩
 rintro ⟨i',p⟩ ⟨i,ei,hi,hl,hp⟩
 simp only at ei hl hp
 subst ei
 refine ⟨fun hd=>?_,fun hd=>?_⟩
 ·have hd:(i:Int)<5:=of_decide_eq_true hd
  have hF:=zmp (i:=i) (by omega)
  have hb:=sum_bd9 hbat hF
  have e:∀ j:Int,sum5 x j=sumS (newK x.1 x.2) (fun5.getD j.toNat zFun).val:=fun _=>rfl
  refine ⟨⟨by omega,hd⟩,⟨hbat,hF⟩,⟨⟨by show (1:Int)<=1000000000;decide,by show (1000000000:Int)<=1000000000;decide⟩,?_,?_⟩,⟨⟨by show (1:Int)<=1000000000;decide,by show (1000000000:Int)<=1000000000;decide⟩,?_,?_⟩,⟨by omega,hd⟩,by simp only [Z.in64];omega,by first | rfl | trivial,⟨i+1,rfl,by omega,by rw [List.length_set];exact hl,fun j hj=>?_⟩,?_⟩
  ·show _<=(sum5 x i).1;rw [e];have:=hb.1.1;simp only [ydx];omega
  ·show (sum5 x i).1<=_;rw [e];have:=hb.1.2;simp only [ydx];omega
  ·show _<=(sum5 x i).2;rw [e];have:=hb.2.1;simp only [ydx];omega
  ·show (sum5 x i).2<=_;rw [e];have:=hb.2.2;simp only [ydx];omega
  ·show (p.set i (prt5 x i)).getD j (0,0)=prt5 x (j:Nat)
   by_cases e:j=i
   ·subst e;simp [yda,hl,show j<5 by omega]
   ·have:=hp j (by omega)
    rw [<-this]
    simp [yda,List.getElem?_set,show ¬ i=j by omega]
  ·show (5 - ((i:Int)+1)).toNat<(5 - (i:Int)).toNat
   omega
 ·have hd:¬ (i:Int)<5:=of_decide_eq_false hd
  have:i=5:=by omega
  subst this
  refine ⟨by omega,by omega,by omega,by omega,by omega,?_⟩
  rw [zcd,h1,h2]
  have q0:=hp 0 (by omega)
  have q1:=hp 1 (by omega)
  have q2:=hp 2 (by omega)
  have q3:=hp 3 (by omega)
  have q4:=hp 4 (by omega)
  show ((p.getD 0 (0,0),p.getD 1 (0,0),p.getD 2 (0,0),p.getD 3 (0,0),p.getD 4 (0,0)),(0:Int))=_
  rw [q0,q1,q2,q3,q4];rfl
theorem v14 (x:(List SackS) × List TakeS) (_:k14.pre x):V14 x:=by
 refine ⟨trivial,fun h=>zgk h,fun h=>?_,fun h=>?_⟩
 ·rw [zbp,zkh h];rfl
 obtain ⟨h1,h2⟩:=ziU h
 have hbat:=new_ok (zgb h1 h2)
 have hb:=srch_bd (f:=(lessF (zaG (x.1,x.2))).val) (1001:Int).toNat 0 1001 (by omega)
 refine ⟨⟨h1,h2⟩,⟨by show (0:Int)<=1001/\(1001:Int)<=1152921504606846976;decide,fun i h0 h1=>⟨hbat,h0,by have h1:i<1001:=h1;show i<=1000;omega⟩⟩,⟨by show (0:Int)<=1000/\(1000:Int)<=1152921504606846976;decide,fun i h0 h1=>⟨hbat,h0,by have h1:i<1000:=h1;show i<=1000;omega⟩⟩,?_,?_⟩
 ·have key:∀ r:Int,0<=r/\r<=1001->Z.in64 (r - 1):=fun r h=>by simp only [Z.in64];omega
  exact key _ hb
 ·rw [zbp,h1,h2];rfl
theorem v11 (x:List Tint) (_:k11.pre x):V11 x:=by
 have hw:zaY ((x.length:Int),2,8)=inB (x.length:Int) 2 8:=rfl
 have key:∀ {a b c:Bool},(((!a)||(!b))||(!c))=!((a&&b)&&c):=by decide
 have key2:∀ {a b:Bool},((!a)||(!b))=!(a&&b):=by decide
 simp only [V11,hw]
 refine ⟨trivial,fun h=>?_,fun h=>?_,fun h=>?_,fun h=>?_,fun h=>?_⟩
 ·have h:=inB_iff.1 (not_iff.2.1 h);omega
 ·rw [key2] at h
  have h:=inB_iff.1 (yac _ _▸not_iff.2.1 h).1
  simp only [Z.in64];omega
 ·rw [key2] at h
  have h:=inB_iff.1 (yac _ _▸not_iff.2.1 h).1
  omega
 ·rw [key] at h
  have h:=not_iff.1.1 h
  show false=curveB x
  rw [curveB]
  have e:((x.length:Int) - 1).toNat=x.length - 1:=by omega
  rw [e] at h
  rw [show yby 0=0 from rfl] at h
  rw [h];rfl
 ·rw [key] at h
  have h:=not_iff.2.1 h
  have e:((x.length:Int) - 1).toNat=x.length - 1:=by omega
  rw [e,show yby 0=0 from rfl] at h
  have h8:=inB_iff.1 (yac _ _▸(yac _ _▸h).1).1
  have hc:curveB x=(yaf x.length).all (tintB x):=by rw [curveB,h,yck]
  refine ⟨fun s=>0<=s/\s<=(x.length:Int)/\(yaf s.toNat).all (tintB x)=true,fun s=>((x.length:Int) - s).toNat,⟨by omega,by omega,rfl⟩,?_⟩
  rintro s ⟨s1,s2,s3⟩
  obtain ⟨s,rfl⟩:=ydw s1
  simp only [ydx] at s3 ⊢
  have hk:∀ {a b c d:Bool},((!a)||(b&&(c||d)))=!(a&&(!b||(!c&&!d))):=by decide
  refine ⟨fun hi=>?_,fun hi=>?_⟩
  ·have hi:=of_decide_eq_true hi
   have hsl:s<x.length:=by omega
   have hpos:∀ {p:Prop},(decide ((0:Int)<(s:Int))=true/\p)->1<=s:=fun h=>by have:=of_decide_eq_true h.1;omega
   have ed:((s:Int) - 1).toNat=s - 1:=by omega
   rw [ed]
   have et:((!(zaY ((x.getD s (0,0)).2,0,200)))||(decide ((0:Int)<(s:Int))&&(decide ((x.getD s (0,0)).1<=(x.getD (s - 1) (0,0)).1)||decide ((x.getD s (0,0)).2<(x.getD (s - 1) (0,0)).2))))=!tintB x s:=by
    rw [hk]
    congr 1
    show (inB _ _ _&&_)=(inB _ _ _&&_)
    congr 1
    have a:(!decide ((0:Int)<(s:Int)))=(s==0):=by
     cases s with
     | zero=>rfl
     | succ n=>simp
    have b:(!decide ((x.getD s (0,0)).1<=(x.getD (s - 1) (0,0)).1))=decide ((x.getD (s - 1) (0,0)).1<(x.getD s (0,0)).1):=by
     rw [<-decide_not];exact decide_eq_decide.2 (by omega)
    have c:(!decide ((x.getD s (0,0)).2<(x.getD (s - 1) (0,0)).2))=decide ((x.getD (s - 1) (0,0)).2<=(x.getD s (0,0)).2):=by
     rw [<-decide_not];exact decide_eq_decide.2 (by omega)
    rw [a,b,c]
   rw [et]
   refine ⟨⟨s1,hi⟩,trivial,fun _=>⟨s1,hi⟩,fun h=>?_,fun h=>?_,fun _=>⟨s1,hi⟩,fun h=>?_,fun h=>?_,fun h=>?_,fun h=>?_⟩
   ·simp only [Z.in64];omega
   ·have:=hpos h;omega
   ·simp only [Z.in64];omega
   ·have:=hpos h.2;omega
   ·have h:=not_iff.1.1 h
    show false=curveB x
    rw [hc]
    refine (Bool.eq_false_iff.2 fun hh=>?_).symm
    rw [zgo (tintB x) _ s hsl hh] at h;cases h
   ·have h:=not_iff.2.1 h
    refine ⟨by simp only [Z.in64];omega,⟨by omega,by omega,?_⟩,by omega⟩
    rw [show ((s:Int)+1).toNat=s+1 by omega,List.range_succ,List.all_append,s3]
    simp [h]
  ·have hi:=of_decide_eq_false hi
   have:s=x.length:=by omega
   subst this
   show true=curveB x
   rw [hc,s3]
structure Brk (m:Mix) (i:Nat):Prop where
 i1:1<=i
 i2:i<m.1.length
 lo:(m.1.getD (i - 1) (0,0)).1*(m.2.1+m.2.2)<=1000*m.2.1
 hi:1000*m.2.1<=(m.1.getD i (0,0)).1*(m.2.1+m.2.2)
theorem Curve.pair {c:List Tint} (C:Curve c) {i:Nat} (i1:1<=i) (i2:i<c.length):(1<=(c.getD i (0,0)).1 - (c.getD (i - 1) (0,0)).1/\(c.getD i (0,0)).1 - (c.getD (i - 1) (0,0)).1<=1000)/\(0<=(c.getD (i - 1) (0,0)).1/\(c.getD i (0,0)).1<=1000)/\(0<=(c.getD (i - 1) (0,0)).2/\(c.getD (i - 1) (0,0)).2<=(c.getD i (0,0)).2/\(c.getD i (0,0)).2<=200):=by
 have h1:=C.up (i - 1) (by omega)
 rw [show i - 1+1=i by omega] at h1
 have h2:=C.ratio (i:=i - 1) (by omega)
 have h3:=C.ratio i2
 have h4:=C.bl (i - 1) (by omega)
 have h5:=C.bl i i2
 omega
theorem at_go {c:List Tint} (C:Curve c) {all g:Int} (h0:0<=g) (h1:g<=all):∀ (n i:Nat),n+i=c.length+1->1<=i->i<c.length->(c.getD (i - 1) (0,0)).1*all<=1000*g->1<=atGo c all g n i/\atGo c all g n i<c.length/\(c.getD (atGo c all g n i - 1) (0,0)).1*all<=1000*g/\1000*g<=(c.getD (atGo c all g n i) (0,0)).1*all
 | 0,i,e,i1,i2,_=>by omega
 | n+1,i,e,i1,i2,hl=>by
  rw [atGo]
  cases hd:decide ((i:Int)+1<(c.length:Int))&&decide ((c.getD i (0,0)).1*all<1000*g) with
  | true =>
   rw [yac] at hd
   have hd1:=of_decide_eq_true hd.1
   have hd2:=of_decide_eq_true hd.2
   rw [cond_true]
   exact at_go C h0 h1 n (i+1) (by omega) (by omega) (by omega) (by rw [Nat.add_sub_cancel];omega)
  | false =>
   rw [cond_false]
   refine ⟨i1,i2,hl,?_⟩
   rw [Bool.and_eq_false_iff] at hd
   rcases hd with hd | hd
   ·have hd:=of_decide_eq_false hd
    have:i=c.length - 1:=by omega
    rw [this,C.r1];omega
   ·have hd:=of_decide_eq_false hd;omega
theorem at_brk {m:Mix} (h:AtOk m):Brk m (atI m):=by
 have C:=zcQ h.curve
 have h1:=h.g
 have h2:=h.c
 obtain ⟨g1,g2,g3,g4⟩:=at_go C (all:=m.2.1+m.2.2) (g:=m.2.1) h1 (by omega) m.1.length 1 rfl (Nat.le_refl _) (by have:=C.l2;omega) (by rw [Nat.sub_self,C.r0];omega)
 exact ⟨g1,g2,g3,g4⟩
structure AtBd (m:Mix) (i:Nat):Prop where
 t1:0<=(m.1.getD (i - 1) (0,0)).2*((m.1.getD i (0,0)).1 - (m.1.getD (i - 1) (0,0)).1)/\(m.1.getD (i - 1) (0,0)).2*((m.1.getD i (0,0)).1 - (m.1.getD (i - 1) (0,0)).1)<=200000
 t2:0<=(m.1.getD (i - 1) (0,0)).2*((m.1.getD i (0,0)).1 - (m.1.getD (i - 1) (0,0)).1)*(m.2.1+m.2.2)/\(m.1.getD (i - 1) (0,0)).2*((m.1.getD i (0,0)).1 - (m.1.getD (i - 1) (0,0)).1)*(m.2.1+m.2.2)<=800000000000000000
 t3:0<=(m.1.getD (i - 1) (0,0)).1*(m.2.1+m.2.2)/\(m.1.getD (i - 1) (0,0)).1*(m.2.1+m.2.2)<=4000000000000000
 t4:0<=((m.1.getD i (0,0)).2 - (m.1.getD (i - 1) (0,0)).2)*(1000*m.2.1 - (m.1.getD (i - 1) (0,0)).1*(m.2.1+m.2.2))/\((m.1.getD i (0,0)).2 - (m.1.getD (i - 1) (0,0)).2)*(1000*m.2.1 - (m.1.getD (i - 1) (0,0)).1*(m.2.1+m.2.2))<=800000000000000000
 t5:1<=((m.1.getD i (0,0)).1 - (m.1.getD (i - 1) (0,0)).1)*(m.2.1+m.2.2)/\((m.1.getD i (0,0)).1 - (m.1.getD (i - 1) (0,0)).1)*(m.2.1+m.2.2)<=4000000000000000
theorem at_bd {m:Mix} (h:AtOk m) {i:Nat} (B:Brk m i):AtBd m i:=by
 obtain ⟨⟨w1,w2⟩,⟨r1,r2⟩,b1,b2,b3⟩:=(zcQ h.curve).pair B.i1 B.i2
 have h1:=h.one
 have h2:=h.top
 have hg:=h.g
 have hc:=h.c
 have lo:=B.lo
 have t1:=mul_bd (A:=200) (B:=1000) (a:=(m.1.getD (i - 1) (0,0)).2) (b:=(m.1.getD i (0,0)).1 - (m.1.getD (i - 1) (0,0)).1) ⟨b1,by omega⟩ ⟨by omega,w2⟩
 have t2:=mul_bd (A:=200000) (B:=4000000000000) (a:=(m.1.getD (i - 1) (0,0)).2*((m.1.getD i (0,0)).1 - (m.1.getD (i - 1) (0,0)).1)) (b:=m.2.1+m.2.2) ⟨t1.1,by omega⟩ ⟨by omega,h2⟩
 have t3:=mul_bd (A:=1000) (B:=4000000000000) (a:=(m.1.getD (i - 1) (0,0)).1) (b:=m.2.1+m.2.2) ⟨r1,by omega⟩ ⟨by omega,h2⟩
 have t4:=mul_bd (A:=200) (B:=4000000000000000) (a:=(m.1.getD i (0,0)).2 - (m.1.getD (i - 1) (0,0)).2) (b:=1000*m.2.1 - (m.1.getD (i - 1) (0,0)).1*(m.2.1+m.2.2)) ⟨by omega,by omega⟩ ⟨by omega,by omega⟩
 have t5:=mul_bd (A:=1000) (B:=4000000000000) (a:=(m.1.getD i (0,0)).1 - (m.1.getD (i - 1) (0,0)).1) (b:=m.2.1+m.2.2) ⟨by omega,w2⟩ ⟨by omega,h2⟩
 have t6:1<=((m.1.getD i (0,0)).1 - (m.1.getD (i - 1) (0,0)).1)*(m.2.1+m.2.2):=Int.mul_pos (by omega) (by omega)
 exact ⟨⟨t1.1,by omega⟩,⟨t2.1,by omega⟩,⟨t3.1,by omega⟩,⟨t4.1,by omega⟩,t6,by omega⟩
theorem at_fra {m:Mix} (h:AtOk m) {i:Nat} (B:Brk m i):FraOk (atAt m (i:Nat)):=by
 have D:=at_bd h B
 have t2:=D.t2
 have t4:=D.t4
 have e:((i:Int) - 1).toNat=i - 1:=by omega
 refine ⟨?_,?_⟩
 ·simp only [atAt,e,ydx];exact D.t5
 ·simp only [atAt,e,ydx];omega
theorem v17 (x:Mix) (hp:k17.pre x):V17 x:=by
 have h:AtOk x:=hp
 have C:=zcQ h.curve
 have hB:=at_brk h
 have h1:=h.one
 have h2:=h.top
 have hg:=h.g
 have hc:=h.c
 have l2:=C.l2
 have l8:=C.l8
 refine ⟨by simp only [Z.in64];omega,fun s=>∃ i n:Nat,s=(i:Int)/\n+i=x.1.length+1/\1<=i/\i<x.1.length/\atI x=atGo x.1 (x.2.1+x.2.2) x.2.1 n i,fun s=>((x.1.length:Int) - s).toNat,⟨1,x.1.length,rfl,rfl,by omega,by omega,rfl⟩,?_⟩
 rintro s ⟨i,n,rfl,en,i1,i2,eg⟩
 obtain ⟨n,rfl⟩:∃ m,n=m+1:=⟨n - 1,by omega⟩
 have hr:=C.ratio i2
 have hm:=mul_bd (A:=1000) (B:=4000000000000) hr (b:=x.2.1+x.2.2) ⟨by omega,by omega⟩
 simp only [ydx]
 refine ⟨by simp only [Z.in64];omega,fun _=>⟨by omega,by omega⟩,fun _=>by simp only [Z.in64];omega,fun _=>by simp only [Z.in64];omega,fun hd=>?_,fun hd=>?_⟩
 ·rw [atGo,hd,cond_true] at eg
  rw [yac] at hd
  have hd1:=of_decide_eq_true hd.1
  refine ⟨by simp only [Z.in64];omega,by first | rfl | trivial,⟨i+1,n,rfl,by omega,by omega,by omega,eg⟩,?_⟩
  show ((x.1.length:Int) - ((i:Int)+1)).toNat<((x.1.length:Int) - (i:Int)).toNat
  omega
 ·rw [atGo,hd,cond_false] at eg
  rw [eg] at hB
  have D:=at_bd h hB
  obtain ⟨⟨w1,w2⟩,⟨r1,r2⟩,b1,b2,b3⟩:=C.pair i1 i2
  have t1:=D.t1
  have t2:=D.t2
  have t3:=D.t3
  have t4:=D.t4
  have t5:=D.t5
  have e:((i:Int) - 1).toNat=i - 1:=by omega
  have hv:zaE x=atAt x (i:Nat):=by rw [zaE,eg]
  rw [e,hv]
  simp only [Z.in64]
  refine ⟨by omega,⟨by omega,by omega⟩,⟨by omega,by omega⟩,by omega,by omega,by omega,by omega,by omega,by omega,by omega,by omega,by omega,by omega,?_⟩
  simp only [atAt,e,ydx]
end Go.Tt
