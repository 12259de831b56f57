/-
  Chapter 10: OrderCases: the worst and the best case, as sales of their own.
-/
import Derived.Test.YtdpfmofgibmifaaOrdQ1
set_option linter.all false
set_option maxRecDepth 100000
set_option maxHeartbeats 4000000
set_option linter.unusedVariables false
namespace Go.Ord
open Go Go.Sx
def badX (y:Supply):Supply:=(y.1,(y.2.1.1,y.2.1.1),(y.2.2.2,y.2.2.2))
def goodX (y:Supply):Supply:=(y.1,(y.2.1.2,y.2.1.2),(y.2.2.1,y.2.2.1))
theorem market_map (e:Supply→Supply) (f g f' g':Supply→Int) (h1:∀ y,(e y).1=y.1) (h2:∀ y,f (e y)=f' y) (h3:∀ y,g (e y)=g' y) (sup:List Supply) (ord:List Order):marketV f g (sup.map e,ord)=marketV f' g' (sup,ord):=by
 simp only [marketV,List.map_map]
 congr 2
 ·exact List.map_congr_left fun y _=>h2 y
 ·refine List.map_congr_left fun y _=>?_
  simp only [Function.comp,h1,h3]
theorem sale_map (e:Supply→Supply) (h:∀ y,supplyB y=true→supplyB (e y)=true) {sup:List Supply} {ord:List Order} (hs:saleB (sup,ord)=true):saleB (sup.map e,ord)=true:=by
 have S:=sale_iff.1 hs
 refine sale_iff.2 ⟨by simpa using S.s8,S.o8,fun y hy=>?_,S.ord⟩
 obtain ⟨z,hz,rfl⟩:=List.mem_map.1 hy
 exact h z (S.sup z hz)
theorem bad_ok (y:Supply) (h:supplyB y=true):supplyB (badX y)=true:=by
 have:=supply_iff.1 h
 refine supply_iff.2 ⟨this.1,⟨this.2.1.1,Int.le_refl _,?_⟩,?_,Int.le_refl _,this.2.2.2.2⟩
 ·exact Int.le_trans this.2.1.2.1 this.2.1.2.2
 ·exact Int.le_trans this.2.2.1 this.2.2.2.1
theorem good_ok (y:Supply) (h:supplyB y=true):supplyB (goodX y)=true:=by
 have:=supply_iff.1 h
 refine supply_iff.2 ⟨this.1,⟨?_,Int.le_refl _,this.2.1.2.2⟩,this.2.2.1,Int.le_refl _,?_⟩
 ·exact Int.le_trans this.2.1.1 this.2.1.2.1
 ·exact Int.le_trans this.2.2.2.1 this.2.2.2.2
theorem lack_eq {x y:Sale} (hx:saleB x=true) (hy:saleB y=true) (hw:worstM y=worstM x) (hl:y.2=x.2):order_Lack y=order_Lack x:=by
 simp only [order_Lack,hx,hy,hw,hl]
theorem accept_eq {x y:Sale} (hx:saleB x=true) (hy:saleB y=true) (hw:worstM y=worstM x) (hl:y.2=x.2):order_Accept y=order_Accept x:=by
 simp only [order_Accept,hx,hy,hw,hl]
theorem rm5 {n:Int} (hn:n≤100):Z.roomy 5 n:=roomy_of (by decide) (by decide) (by omega)
theorem v7 (x:Sale) (_:k7.pre x):V7 x:=by
 refine ⟨trivial,fun _=>⟨trivial,rfl⟩,fun hg=>?_⟩
 have hsh:=great_short hg
 refine ⟨trivial,fun _=>hsh,fun hb=>?_,fun hb=>?_⟩
 ·cases h:saleB x with
  | true =>
   exfalso
   have hb:((!((order_Meets x).2==0))||(!(saleB x)))=true:=hb
   rw [h,(meets_ok h).1] at hb
   cases hb
  | false =>
   have hm:=meets_bad h
   refine ⟨fun _=>hsh,fun _=>trivial,?_⟩
   show ((((order_Meets x).2==1)&&((order_Meets x).1==0))&&(!(saleB x))&&true)=true
   rw [h,hm];rfl
 have h:saleB x=true:=by
  have hb:((!((order_Meets x).2==0))||(!(saleB x)))=false:=hb
  rw [Bool.or_eq_false_iff] at hb
  simpa using hb.2
 obtain ⟨sup,ord⟩:=x
 have S:=sale_iff.1 h
 have hs8:(sup.length:Int)≤8:=by have:=S.s8;simp only at this;omega
 refine ⟨fun s=>0≤s.1∧s.1≤(sup.length:Int)∧s.2.1=([],ord)∧s.2.2.1=([],ord)∧s.2.2.2.1=(sup.take s.1.toNat).map badX∧s.2.2.2.2=(sup.take s.1.toNat).map goodX,fun s=>((sup.length:Int) - s.1).toNat,⟨by simp,by simp,rfl,rfl,rfl,rfl⟩,?_⟩
 rintro ⟨i,c,d,l,r⟩ ⟨i1,i2,e1,e2,e3,e4⟩
 simp only at i1 i2 e1 e2 e3 e4 ⊢
 subst e1;subst e2;subst e3;subst e4
 have hl1:((sup.take i.toNat).map badX).length≤8:=by rw [List.length_map,List.length_take];omega
 have hl2:((sup.take i.toNat).map goodX).length≤8:=by rw [List.length_map,List.length_take];omega
 refine ⟨fun hi=>?_,fun hi=>?_⟩
 ·have hi:=of_decide_eq_true hi
  have a1:=take_map badX sup (0,(0,0),0,0) i i1 hi
  have a2:=take_map goodX sup (0,(0,0),0,0) i i1 hi
  refine ⟨⟨i1,hi⟩,trivial,trivial,trivial,trivial,rm5 (by rw [List.length_append];simp;omega),rm5 (by rw [List.length_append];simp;omega),by simp only [Z.in64];omega,⟨by show 0≤i+1;omega,by show i+1≤_;omega,?_,?_,a1.symm,a2.symm⟩,?_⟩
  all_goals first | trivial | rfl | skip
  show ((sup.length:Int) - (i+1)).toNat<((sup.length:Int) - i).toNat
  omega
 have hi:=of_decide_eq_false hi
 have hfull:sup.take i.toNat=sup:=List.take_of_length_le (by omega)
 rw [hfull]
 have hB:saleB (sup.map badX,ord)=true:=sale_map badX bad_ok h
 have hG:saleB (sup.map goodX,ord)=true:=sale_map goodX good_ok h
 have w1:worstM (sup.map badX,ord)=worstM (sup,ord):=market_map badX _ _ _ _ (fun _=>rfl) (fun _=>rfl) (fun _=>rfl) sup ord
 have w2:bestM (sup.map badX,ord)=worstM (sup,ord):=market_map badX _ _ _ _ (fun _=>rfl) (fun _=>rfl) (fun _=>rfl) sup ord
 have w3:worstM (sup.map goodX,ord)=bestM (sup,ord):=market_map goodX _ _ _ _ (fun _=>rfl) (fun _=>rfl) (fun _=>rfl) sup ord
 have w4:bestM (sup.map goodX,ord)=bestM (sup,ord):=market_map goodX _ _ _ _ (fun _=>rfl) (fun _=>rfl) (fun _=>rfl) sup ord
 have mx:=meets_ok h
 have mb:=meets_ok hB
 have mg:=meets_ok hG
 rw [w1,w2] at mb
 rw [w3,w4] at mg
 have hmono:meetsM (worstM (sup,ord)) (allV ord.length)=true→meetsM (bestM (sup,ord)) (allV ord.length)=true:=by
  refine meets_mono fun X=>?_
  rw [←caseM_worst,←caseM_best]
  refine truth_mono (by simp) (by simp) (fun i hi=>?_) (fun i hi=>?_) X
  ·rw [map_getD worstMany noSupply rfl,map_getD bestMany noSupply rfl]
   have:=(supply_iff.1 (S.sup _ (getD_mem sup noSupply i hi))).2.1
   exact ⟨this.1,this.2.1⟩
  ·rw [map_getD worstReady noSupply rfl,map_getD bestReady noSupply rfl]
   exact (supply_iff.1 (S.sup _ (getD_mem sup noSupply i hi))).2.2.2.1
 obtain ⟨x0,x1⟩:=mx
 obtain ⟨b0,b1⟩:=mb
 obtain ⟨g0,g1⟩:=mg
 have x1:(order_Meets (sup,ord)).1=2∧meetsM (worstM (sup,ord)) (allV ord.length)=true∨(order_Meets (sup,ord)).1=1∧meetsM (worstM (sup,ord)) (allV ord.length)=false∧meetsM (bestM (sup,ord)) (allV ord.length)=true∨(order_Meets (sup,ord)).1=0∧meetsM (worstM (sup,ord)) (allV ord.length)=false∧meetsM (bestM (sup,ord)) (allV ord.length)=false:=x1
 have b1:(order_Meets (sup.map badX,ord)).1=2∧meetsM (worstM (sup,ord)) (allV ord.length)=true∨(order_Meets (sup.map badX,ord)).1=1∧meetsM (worstM (sup,ord)) (allV ord.length)=false∧meetsM (worstM (sup,ord)) (allV ord.length)=true∨(order_Meets (sup.map badX,ord)).1=0∧meetsM (worstM (sup,ord)) (allV ord.length)=false∧meetsM (worstM (sup,ord)) (allV ord.length)=false:=b1
 have g1:(order_Meets (sup.map goodX,ord)).1=2∧meetsM (bestM (sup,ord)) (allV ord.length)=true∨(order_Meets (sup.map goodX,ord)).1=1∧meetsM (bestM (sup,ord)) (allV ord.length)=false∧meetsM (bestM (sup,ord)) (allV ord.length)=true∨(order_Meets (sup.map goodX,ord)).1=0∧meetsM (bestM (sup,ord)) (allV ord.length)=false∧meetsM (bestM (sup,ord)) (allV ord.length)=false:=g1
 obtain ⟨n,hn⟩:∃ n,n=(order_Meets (sup,ord)).1:=⟨_,rfl⟩
 obtain ⟨a,ha⟩:∃ a,a=(order_Meets (sup.map badX,ord)).1:=⟨_,rfl⟩
 obtain ⟨b,hbb⟩:∃ b,b=(order_Meets (sup.map goodX,ord)).1:=⟨_,rfl⟩
 rw [←hn] at x1
 rw [←ha] at b1
 rw [←hbb] at g1
 have fin:a≠1∧b≠1∧n=Int.tdiv (a+b) 2∧0≤a∧a≤2∧0≤b∧b≤2:=by
  clear hn ha hbb
  revert x1 b1 g1 hmono
  generalize meetsM (worstM (sup,ord)) (allV ord.length)=u
  generalize meetsM (bestM (sup,ord)) (allV ord.length)=v
  intro hmono x1 b1 g1
  cases u<;>cases v
  ·simp at x1 b1 g1
   subst x1;subst b1;subst g1;decide
  ·simp at x1 b1 g1
   subst x1;subst b1;subst g1;decide
  ·exact absurd (hmono rfl) (by decide)
  ·simp at x1 b1 g1
   subst x1;subst b1;subst g1;decide
 obtain ⟨f1,f2,f3,f4,f5,f6,f7⟩:=fin
 have ft:0≤Int.tdiv (a+b) 2∧Int.tdiv (a+b) 2≤2:=by
  rw [Int.tdiv_eq_ediv_of_nonneg (by omega)];omega
 have hcond:((((((!((order_Meets (sup.map badX,ord)).2==0))||(!((order_Meets (sup.map goodX,ord)).2==0)))||((order_Meets (sup.map badX,ord)).1==1))||((order_Meets (sup.map goodX,ord)).1==1))||(!((order_Meets (sup,ord)).1==(Int.tdiv ((order_Meets (sup.map badX,ord)).1+(order_Meets (sup.map goodX,ord)).1) 2)))))=false:=by
  rw [b0,g0,←ha,←hbb,←hn,←f3,beq_eq_false_iff_ne.2 f1,beq_eq_false_iff_ne.2 f2]
  simp
 have eL:order_Lack (sup.map badX,ord)=order_Lack (sup,ord):=lack_eq h hB w1 rfl
 have eA:order_Accept (sup.map badX,ord)=order_Accept (sup,ord):=accept_eq h hB w1 rfl
 refine ⟨trivial,trivial,fun _=>?_,fun _=>⟨by decide,?_⟩,fun hc=>?_,fun _=>⟨trivial,trivial,trivial,trivial,fun _=>trivial,?_⟩⟩
 ·show Z.in64 ((order_Meets (sup.map badX,ord)).1+(order_Meets (sup.map goodX,ord)).1)
  rw [←ha,←hbb];simp only [Z.in64];omega
 ·show Z.in64 (Int.tdiv ((order_Meets (sup.map badX,ord)).1+(order_Meets (sup.map goodX,ord)).1) 2)
  rw [←ha,←hbb];simp only [Z.in64];omega
 ·exact absurd (hcond.symm.trans hc) (by decide)
 ·rw [eL,eA,(accept_spec h).1]
  simp [law10u_alive,law10u_OrderCases]
end Go.Ord
