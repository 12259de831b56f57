/-
  Chapter 10: OrderMore.
-/
import Derived.Test.YtdpfmofgibmifaaOrdQ2
set_option linter.all false
set_option maxRecDepth 100000
set_option maxHeartbeats 4000000
set_option linter.unusedVariables false
namespace Go.Ord
open Go Go.Sx
def forX (f g:Supply→Int) (ord:List Order) (X:Int) (y:Supply):Int:=cond (touchB (setOf (ord.map (canB y.1 (g y)))) X) (f y) 0
theorem sel_list {α:Type} (q:α→Bool) (f:α→Int):∀ (l:List α) (k:Nat) (p:Nat→Bool),(∀ i (h:i<l.length),p (k+i)=q l[i])→selS p (l.map f) k=(l.map fun y=>cond (q y) (f y) 0).sum
 | [],_,_,_=>rfl
 | a::l,k,p,h=>by
  have ih:=sel_list q f l (k+1) p (fun i hi=>by
   have:=h (i+1) (by simp;omega)
   rw [show k+1+i=k+(i+1) by omega,this];rfl)
  have h0:p k=q a:=h 0 (by simp)
  rw [List.map_cons,List.map_cons,List.sum_cons,selS,ih,h0]
theorem lack_list (f g:Supply→Int) (sup:List Supply) (ord:List Order) (X:Int):lackM (marketV f g (sup,ord)) X=selS (fun k=>hasB X (k:Nat)) (ord.map fun o=>o.2.1) 0 - (sup.map (forX f g ord X)).sum:=by
 show _ - selS _ (sup.map f) 0=_
 rw [sel_list (fun y=>touchB (setOf (ord.map (canB y.1 (g y)))) X) f sup 0 _ (fun i hi=>by
  show touchB ((sup.map fun x=>setOf (ord.map (canB x.1 (g x)))).getD (0+i) 0) X=_
  simp [List.getD,hi])]
 rfl
theorem perm_sum {l m:List Int} (h:l.Perm m):l.sum=m.sum:=by
 induction h with
 | nil=>rfl
 | cons a _ ih=>rw [List.sum_cons,List.sum_cons,ih]
 | swap a b l=>simp only [List.sum_cons];omega
 | trans _ _ h1 h2=>exact h1.trans h2
theorem lack_perm {f g:Supply→Int} {s t:List Supply} (h:s.Perm t) (ord:List Order) (X:Int):lackM (marketV f g (s,ord)) X=lackM (marketV f g (t,ord)) X:=by
 rw [lack_list,lack_list,perm_sum (h.map _)]
theorem sum_set_le (F:Supply→Int):∀ (l:List Supply) (k:Nat) (v:Supply),(∀ h:k<l.length,F l[k]≤F v)→(l.map F).sum≤((l.set k v).map F).sum
 | [],k,v,_=>by simp
 | a::l,0,v,h=>by
  have:F a≤F v:=h (by simp)
  simp only [List.set_cons_zero,List.map_cons,List.sum_cons]
  omega
 | a::l,k+1,v,h=>by
  have ih:=sum_set_le F l k v (fun hk=>h (by simp;omega))
  simp only [List.set_cons_succ,List.map_cons,List.sum_cons]
  omega
structure Less (y x:Sale):Prop where
 ok:saleB y=true
 same:y.2=x.2
 le:∀ X,lackM (worstM y) X≤lackM (worstM x) X
theorem lack_val {x:Sale} (h:saleB x=true):(order_Lack x).2.1=(mostV (lackM (worstM x)) (setsTo (2^x.2.length))).2:=by
 rcases lack_spec h with ⟨l1,l2⟩ | ⟨l1,l2⟩
 ·rw [l2,l1]
 ·rw [l2]
theorem less_all {x y:Sale} (hx:saleB x=true) (h:Less y x):((order_Meets x).1=2→(order_Meets y).1=2)∧(order_Lack y).2.1≤(order_Lack x).2.1∧(order_Accept x).2.1≤(order_Accept y).2.1:=by
 refine ⟨fun e=>?_,?_,?_⟩
 ·obtain ⟨_,cx⟩:=meets_ok hx
  obtain ⟨_,cy⟩:=meets_ok h.ok
  rcases cx with ⟨_,c⟩ | ⟨c,_⟩ | ⟨c,_⟩
  ·have my:meetsM (worstM y) (allV y.2.length)=true:=by rw [h.same];exact meets_mono h.le c
   rcases cy with ⟨c,_⟩ | ⟨_,c,_⟩ | ⟨_,c,_⟩
   ·exact c
   ·rw [my] at c;cases c
   ·rw [my] at c;cases c
  ·omega
  ·omega
 ·rw [lack_val hx,lack_val h.ok,h.same]
  have mx:=most_spec (lackM (worstM x)) (setsTo (2^x.2.length))
  have my:=most_spec (lackM (worstM y)) (setsTo (2^x.2.length))
  by_cases e:mostV (lackM (worstM y)) (setsTo (2^x.2.length))=(0,0)
  ·rw [e];exact mx.nn
  ·obtain ⟨h1,h2⟩:=my.val e
   have h3:=mx.max _ h1
   have h4:=h.le (mostV (lackM (worstM y)) (setsTo (2^x.2.length))).1
   omega
 ·obtain ⟨_,_,A⟩:=accept_spec hx
  obtain ⟨_,_,B⟩:=accept_spec h.ok
  rw [h.same] at B
  rcases A.mem with e | e
  ·have:=A.val
   simp only at e this
   rw [e,price_empty] at this
   have:=B.nn
   simp only at this
   omega
  ·have h1:=B.max _ e (meets_mono h.le A.met)
   have h2:=A.val
   simp only at h1 h2
   omega
theorem same_all {x y:Sale} (hx:saleB x=true) (hy:saleB y=true) (he:y.2=x.2) (hw:lackM (worstM y)=lackM (worstM x)) (hb:lackM (bestM y)=lackM (bestM x)):order_Meets y=order_Meets x∧order_Lack y=order_Lack x∧order_Accept y=order_Accept x:=by
 have e1:meetsM (worstM y)=meetsM (worstM x):=funext fun X=>by simp only [meetsM,hw]
 have e2:meetsM (bestM y)=meetsM (bestM x):=funext fun X=>by simp only [meetsM,hb]
 refine ⟨?_,?_,?_⟩
 ·simp only [order_Meets,hx,hy,e1,e2,he]
 ·simp only [order_Lack,hx,hy,hw,he]
 ·simp only [order_Accept,hx,hy,e1,he]
theorem set_less {sup:List Supply} {ord:List Order} (h:saleB (sup,ord)=true) {k:Nat} (hk:k<sup.length) {v:Supply} (h1:v.1=(sup.getD k noSupply).1) (hv:supplyB v=true) (h2:worstMany (sup.getD k noSupply)≤worstMany v) (h3:worstReady v≤worstReady (sup.getD k noSupply)):Less (sup.set k v,ord) (sup,ord):=by
 have S:=sale_iff.1 h
 have hV:=supply_iff.1 hv
 refine ⟨sale_iff.2 ⟨by rw [List.length_set];exact S.s8,S.o8,fun y hy=>?_,S.ord⟩,rfl,fun X=>?_⟩
 ·rcases List.mem_or_eq_of_mem_set hy with hy | rfl
  ·exact S.sup y hy
  ·exact hv
 ·have:=sum_set_le (forX worstMany worstReady ord X) sup k v (fun hk=>by
   have e:sup[k]=sup.getD k noSupply:=by simp [List.getD,hk]
   rw [e]
   simp only [forX]
   rw [h1]
   have hn:0≤worstMany v:=hV.2.1.1
   cases ht:touchB (setOf (ord.map (canB (sup.getD k noSupply).1 (worstReady (sup.getD k noSupply))))) X with
   | true=>rw [touch_mono h3 ht];exact h2
   | false =>
    cases touchB (setOf (ord.map (canB (sup.getD k noSupply).1 (worstReady v)))) X with
    | true=>exact hn
    | false=>exact Int.le_refl _)
  show lackM (marketV _ _ _) X≤lackM (marketV _ _ _) X
  rw [lack_list,lack_list]
  omega
theorem app_less {sup:List Supply} {ord:List Order} (h:saleB (sup,ord)=true) (hl:sup.length<8) {v:Supply} (hv:saleB (sup++[v],ord)=true):Less (sup++[v],ord) (sup,ord):=by
 refine ⟨hv,rfl,fun X=>?_⟩
 show lackM (marketV _ _ _) X≤lackM (marketV _ _ _) X
 rw [lack_list,lack_list,List.map_append,List.sum_append]
 have hV:=supply_iff.1 ((sale_iff.1 hv).sup v (by simp))
 have:0≤forX worstMany worstReady ord X v:=by
  simp only [forX]
  cases touchB (setOf (ord.map (canB v.1 (worstReady v)))) X with
  | true=>exact hV.2.1.1
  | false=>exact Int.le_refl _
 simp only [List.map_cons,List.map_nil,List.sum_cons,List.sum_nil]
 omega
def turnL (sup:List Supply) (w:Int):List Supply:=(List.range sup.length).map fun j:Nat=>sup.getD (Int.toNat (Int.tmod ((j:Int)+w) (sup.length:Int))) (0,(0,0),0,0)
theorem turn_perm {sup:List Supply} {w:Int} (hw:0≤w):(turnL sup w).Perm sup:=by
 obtain ⟨w,rfl⟩:=Int.eq_ofNat_of_zero_le hw
 by_cases h0:sup.length=0
 ·have:sup=[]:=List.eq_nil_of_length_eq_zero h0
  subst this;exact List.Perm.refl _
 have hc:=Nat.mod_lt w (Nat.pos_of_ne_zero h0)
 have e:turnL sup (w:Int)=sup.drop (w % sup.length)++sup.take (w % sup.length):=by
  refine List.ext_getElem (by simp [turnL];omega) fun j h1 h2=>?_
  have hj:j<sup.length:=by simpa [turnL] using h1
  have em:Int.toNat (Int.tmod ((j:Int)+(w:Int)) (sup.length:Int))=(j+w) % sup.length:=rfl
  have e2:(j+w) % sup.length=(j+w % sup.length) % sup.length:=by rw [Nat.add_mod,Nat.mod_eq_of_lt hj]
  simp only [turnL,List.getElem_map,List.getElem_range]
  rw [em,e2,List.getElem_append]
  generalize w % sup.length=c at *
  have hlt:(j+c) % sup.length<sup.length:=Nat.mod_lt _ (by omega)
  have eg:∀ m,m<sup.length→sup.getD m (0,(0,0),0,0)=sup[m]!:=fun m hm=>by simp [List.getD,hm]
  split
  ·rename_i h
   have h:j<sup.length - c:=by simpa using h
   rw [Nat.mod_eq_of_lt (by omega)]
   simp only [List.getD,List.getElem_drop]
   rw [List.getElem?_eq_getElem (by omega)]
   simp [Nat.add_comm]
  ·rename_i h
   have h:¬ j<sup.length - c:=by simpa using h
   have e3:(j+c) % sup.length=j - (sup.length - c):=by
    rw [Nat.mod_eq_sub_mod (by omega),Nat.mod_eq_of_lt (by omega)];omega
   rw [e3]
   simp only [List.getD,List.getElem_take,List.length_drop]
   rw [List.getElem?_eq_getElem (by omega)]
   simp
 rw [e]
 exact List.perm_append_comm.trans (by rw [List.take_append_drop])
theorem turn_all {sup:List Supply} {ord:List Order} (h:saleB (sup,ord)=true) {w:Int} (hw:0≤w):saleB (turnL sup w,ord)=true∧order_Meets (turnL sup w,ord)=order_Meets (sup,ord)∧order_Lack (turnL sup w,ord)=order_Lack (sup,ord)∧order_Accept (turnL sup w,ord)=order_Accept (sup,ord):=by
 have hp:=turn_perm (sup:=sup) hw
 have S:=sale_iff.1 h
 have hs:saleB (turnL sup w,ord)=true:=sale_iff.2 ⟨by rw [show (turnL sup w,ord).1.length=sup.length from hp.length_eq];exact S.s8,S.o8,fun y hy=>S.sup y (hp.mem_iff.1 hy),S.ord⟩
 exact ⟨hs,same_all h hs rfl (funext fun X=>lack_perm hp ord X) (funext fun X=>lack_perm hp ord X)⟩
theorem more_lists {sup:List Supply} {ord:List Order} (h:saleB (sup,ord)=true) (hl:sup.length<8) (hn:0<sup.length) {mo:Supply} {w b:Int} (hw:0≤w) (hb:0≤b) :
  (Int.tmod w (sup.length:Int)<(sup.length:Int)∧0≤Int.tmod w (sup.length:Int))∧Less (muchS ((sup,ord),mo,w,b),ord) (sup,ord)∧Less (soonS ((sup,ord),mo,w,b),ord) (sup,ord):=by
 obtain ⟨w,rfl⟩:=Int.eq_ofNat_of_zero_le hw
 have et:Int.tmod (w:Int) (sup.length:Int)=((w % sup.length:Nat):Int):=rfl
 have hk:=Nat.mod_lt w hn
 have S:=sale_iff.1 h
 have hy:=supply_iff.1 (S.sup _ (getD_mem sup noSupply (w % sup.length) hk))
 rw [et]
 refine ⟨⟨by omega,by omega⟩,?_,?_⟩
 ·refine set_less (k:=w % sup.length) (v:=((sup.getD (w % sup.length) noSupply).1,(min (sup.getD (w % sup.length) noSupply).2.1.2 ((sup.getD (w % sup.length) noSupply).2.1.1+b),(sup.getD (w % sup.length) noSupply).2.1.2),(sup.getD (w % sup.length) noSupply).2.2)) h hk rfl ?_ ?_ (Int.le_refl _)
  ·revert hy
   generalize sup.getD (w % sup.length) noSupply=y
   intro hy
   refine supply_iff.2 ⟨hy.1,⟨?_,?_,hy.2.1.2.2⟩,hy.2.2⟩
   ·show 0≤min y.2.1.2 (y.2.1.1+b);omega
   ·show min y.2.1.2 (y.2.1.1+b)≤y.2.1.2;omega
  ·show (sup.getD (w % sup.length) noSupply).2.1.1≤min (sup.getD (w % sup.length) noSupply).2.1.2 ((sup.getD (w % sup.length) noSupply).2.1.1+b)
   omega
 ·refine set_less (k:=w % sup.length) (v:=((sup.getD (w % sup.length) noSupply).1,(sup.getD (w % sup.length) noSupply).2.1,((sup.getD (w % sup.length) noSupply).2.2.1,max (sup.getD (w % sup.length) noSupply).2.2.1 ((sup.getD (w % sup.length) noSupply).2.2.2 - b)))) h hk rfl ?_ (Int.le_refl _) ?_
  ·revert hy
   generalize sup.getD (w % sup.length) noSupply=y
   intro hy
   refine supply_iff.2 ⟨hy.1,hy.2.1,hy.2.2.1,?_,?_⟩
   ·show y.2.2.1≤max y.2.2.1 (y.2.2.2 - b);omega
   ·show max y.2.2.1 (y.2.2.2 - b)≤topN;omega
  ·show max (sup.getD (w % sup.length) noSupply).2.2.1 ((sup.getD (w % sup.length) noSupply).2.2.2 - b)≤(sup.getD (w % sup.length) noSupply).2.2.2
   omega
theorem v11 (x:Sale × Supply × Int × Int) (hp:k11.pre x):V11 x:=by
 obtain ⟨⟨sup,ord⟩,mo,w,by_⟩:=x
 obtain ⟨⟨w0,w1⟩,b0,b1⟩:(0≤w∧w<256)∧0≤by_∧by_<256:=hp
 refine ⟨trivial,fun hg=>?_,fun _=>⟨trivial,rfl⟩,fun hg=>?_⟩
 ·rw [Bool.or_eq_false_iff] at hg
  exact great_short hg.1
 rw [Bool.or_eq_false_iff,Bool.or_eq_false_iff] at hg
 obtain ⟨⟨hg1,hg2⟩,hg3⟩:=hg
 have h:saleB (sup,ord)=true:=by simpa using (show (!saleB (sup,ord))=false from hg3)
 have hs7:¬ (8:Int)≤(sup.length:Int):=of_decide_eq_false hg2
 have S:=sale_iff.1 h
 have ho8:ord.length≤8:=S.o8
 obtain ⟨hT0,hT1,hT2,hT3⟩:=turn_all h w0
 have hM0:=(meets_ok h).1
 have hA0:=(accept_spec h).1
 have hN:saleB (newS ((sup,ord),mo,w,by_),ord)=true→Less (newS ((sup,ord),mo,w,by_),ord) (sup,ord):=fun hv=>app_less (v:=mo) h (by omega) hv
 have hNs:short (newS ((sup,ord),mo,w,by_),ord):=⟨by show (sup++[mo]).length≤16;simp;omega,by show ord.length≤16;omega⟩
 have good:∀ y:Sale,(saleB y=true→Less y (sup,ord))→(order_Meets y).2=0→(((((order_Meets (sup,ord)).1==2)&&(!((order_Meets y).1==(order_Meets (sup,ord)).1)))||decide (((order_Lack (sup,ord)).2).1<((order_Lack y).2).1))||decide (((order_Accept y).2).1<((order_Accept (sup,ord)).2).1))=false:=by
  intro y hy h0
  have hv:saleB y=true:=by
   cases e:saleB y with
   | true=>rfl
   | false=>rw [meets_bad e] at h0;cases h0
  obtain ⟨l1,l2,l3⟩:=less_all h (hy hv)
  rw [decide_eq_false (by omega),decide_eq_false (by omega),Bool.or_false,Bool.or_false]
  cases e:((order_Meets (sup,ord)).1==2) with
  | false=>rfl
  | true =>
   have e:=eq_of_beq e
   rw [l1 e,e];rfl
 refine ⟨trivial,trivial,trivial,rm5 (by show (sup.length:Int)≤100;omega),rm5 (by show ((sup++[mo]).length:Int)≤100;simp;omega),fun hn=>?_,fun hn=>?_⟩
 ·have hn:=of_decide_eq_true hn
  simp only at hn
  obtain ⟨⟨k1,k2⟩,hMu,hSo⟩:=more_lists (mo:=mo) h (by omega) (by omega) w0 b0
  have hy:=supply_iff.1 (S.sup _ (getD_mem sup noSupply (Int.toNat (Int.tmod w (sup.length:Int))) (by omega)))
  obtain ⟨L,hL⟩:∃ L,L=saleA ((sup,ord),mo,w,by_)++saleC ((sup,ord),mo,w,by_):=⟨_,rfl⟩
  have hL3:L.length=3:=by rw [hL];rfl
  have hg:∀ y∈L,short y∧(saleB y=true→Less y (sup,ord)):=by
   intro y hy
   have hy:y∈[(newS ((sup,ord),mo,w,by_),ord),(muchS ((sup,ord),mo,w,by_),ord),(soonS ((sup,ord),mo,w,by_),ord)]:=by rw [hL] at hy;exact hy
   simp only [List.mem_cons,List.not_mem_nil,or_false] at hy
   rcases hy with rfl | rfl | rfl
   ·exact ⟨hNs,hN⟩
   ·exact ⟨short_of hMu.ok,fun _=>hMu⟩
   ·exact ⟨short_of hSo.ok,fun _=>hSo⟩
  rw [←hL]
  have rr:=rm5 (n:=(sup.length:Int)) (by omega)
  simp only [topN] at hy
  refine ⟨by show (sup.length:Int)≠0;omega,rr,rr,⟨k2,k1⟩,⟨k2,k1⟩,?_,⟨k2,k1⟩,⟨k2,k1⟩,⟨k2,k1⟩,?_,⟨k2,k1⟩,by rw [hL3];exact roomy_of (by decide) (by decide) (by decide),?_⟩
  ·show Z.in64 ((sup.getD (Int.toNat (Int.tmod w (sup.length:Int))) noSupply).2.1.1+by_)
   simp only [Z.in64];omega
  ·show Z.in64 ((sup.getD (Int.toNat (Int.tmod w (sup.length:Int))) noSupply).2.2.2 - by_)
   simp only [Z.in64];omega
  refine ⟨fun s=>0≤s∧s≤(L.length:Int),fun s=>((L.length:Int) - s).toNat,⟨by omega,by omega⟩,?_⟩
  rintro s ⟨s1,s2⟩
  refine ⟨fun hs=>?_,fun hs=>?_⟩
  ·have hs:=of_decide_eq_true hs
   obtain ⟨n,rfl⟩:=Int.eq_ofNat_of_zero_le s1
   obtain ⟨g1,g2⟩:=hg _ (getD_mem L ([],[]) n (by omega))
   simp only [Int.toNat_natCast]
   refine ⟨⟨by omega,hs⟩,trivial,fun hb=>⟨g1,fun hv=>?_,fun _=>⟨by simp only [Z.in64];omega,trivial,trivial,trivial,trivial,trivial,trivial,⟨by omega,by omega⟩,by omega⟩⟩,fun hb=>⟨trivial,trivial,fun hbad=>?_,fun _=>⟨by simp only [Z.in64];omega,trivial,trivial,trivial,trivial,trivial,trivial,⟨by omega,by omega⟩,by omega⟩⟩⟩
   ·exfalso
    rw [(meets_ok hv).1] at hb;cases hb
   ·exfalso
    have:=good _ g2 (by simpa using hb)
    rw [this] at hbad;cases hbad
  refine ⟨fun s=>(0≤s.1∧s.1≤(sup.length:Int))∧s.2.1.2=ord∧s.2.2=(List.range s.1.toNat).map fun j:Nat=>sup.getD (Int.toNat (Int.tmod ((j:Int)+w) (sup.length:Int))) (0,(0,0),0,0),fun s=>((sup.length:Int) - s.1).toNat,⟨⟨by omega,by omega⟩,rfl,rfl⟩,?_⟩
  rintro ⟨i,⟨q,o⟩,t⟩ ⟨⟨i1,i2⟩,e1,e2⟩
  simp only at i1 i2 e1 e2 ⊢
  subst e1;subst e2
  refine ⟨fun hi=>?_,fun hi=>?_⟩
  ·have hi:=of_decide_eq_true hi
   obtain ⟨i,rfl⟩:=Int.eq_ofNat_of_zero_le i1
   have hr:Int.tmod ((i:Int)+w) (sup.length:Int)<(sup.length:Int)∧0≤Int.tmod ((i:Int)+w) (sup.length:Int):=⟨Int.tmod_lt_of_pos _ (by omega),Int.tmod_nonneg _ (by omega)⟩
   refine ⟨by simp only [Z.in64];omega,by omega,⟨hr.2,hr.1⟩,rm5 (by simp;omega),by simp only [Z.in64];omega,trivial,trivial,trivial,trivial,trivial,trivial,⟨⟨by omega,by omega⟩,rfl,?_⟩,by omega⟩
   exact (range_app (fun j:Nat=>sup.getD (Int.toNat (Int.tmod ((j:Int)+w) (sup.length:Int))) (0,(0,0),0,0)) (i:Int) (by omega)).symm
  ·have hi:=of_decide_eq_false hi
   have e:i.toNat=sup.length:=by omega
   rw [e]
   refine ⟨trivial,trivial,trivial,fun _=>trivial,?_⟩
   show ((((((((((order_Meets (turnL sup w,o)).1==(order_Meets (sup,o)).1)&&((order_Meets (turnL sup w,o)).2==0))&&((order_Lack (turnL sup w,o)).1==(order_Lack (sup,o)).1))&&(((order_Lack (turnL sup w,o)).2).1==((order_Lack (sup,o)).2).1))&&(((order_Lack (turnL sup w,o)).2).2==((order_Lack (sup,o)).2).2))&&((order_Accept (turnL sup w,o)).1==(order_Accept (sup,o)).1))&&(((order_Accept (turnL sup w,o)).2).1==((order_Accept (sup,o)).2).1))&&(((order_Accept (turnL sup w,o)).2).2==0))&&true)=true
   rw [hT1,hT2,hT3,hM0,hA0]
   simp only [beq_self_eq_true,Bool.and_true]
 ·have hn:=of_decide_eq_false hn
  simp only at hn
  obtain ⟨L,hL⟩:∃ L,L=saleA ((sup,ord),mo,w,by_):=⟨_,rfl⟩
  have hL3:L.length=1:=by rw [hL];rfl
  have hg:∀ y∈L,short y∧(saleB y=true→Less y (sup,ord)):=by
   intro y hy
   have hy:y∈[(newS ((sup,ord),mo,w,by_),ord)]:=by rw [hL] at hy;exact hy
   simp only [List.mem_cons,List.not_mem_nil,or_false] at hy
   subst hy
   exact ⟨hNs,hN⟩
  rw [←hL]
  refine ⟨fun s=>0≤s∧s≤(L.length:Int),fun s=>((L.length:Int) - s).toNat,⟨by omega,by omega⟩,?_⟩
  rintro s ⟨s1,s2⟩
  refine ⟨fun hs=>?_,fun hs=>?_⟩
  ·have hs:=of_decide_eq_true hs
   obtain ⟨n,rfl⟩:=Int.eq_ofNat_of_zero_le s1
   obtain ⟨g1,g2⟩:=hg _ (getD_mem L ([],[]) n (by omega))
   simp only [Int.toNat_natCast]
   refine ⟨⟨by omega,hs⟩,trivial,fun hb=>⟨g1,fun hv=>?_,fun _=>⟨by simp only [Z.in64];omega,trivial,trivial,trivial,⟨by omega,by omega⟩,by omega⟩⟩,fun hb=>⟨trivial,trivial,fun hbad=>?_,fun _=>⟨by simp only [Z.in64];omega,trivial,trivial,trivial,⟨by omega,by omega⟩,by omega⟩⟩⟩
   ·exfalso
    rw [(meets_ok hv).1] at hb;cases hb
   ·exfalso
    have:=good _ g2 (by simpa using hb)
    rw [this] at hbad;cases hbad
  refine ⟨fun s=>(0≤s.1∧s.1≤(sup.length:Int))∧s.2.1.2=ord∧s.2.2=(List.range s.1.toNat).map fun j:Nat=>sup.getD (Int.toNat (Int.tmod ((j:Int)+w) (sup.length:Int))) (0,(0,0),0,0),fun s=>((sup.length:Int) - s.1).toNat,⟨⟨by omega,by omega⟩,rfl,rfl⟩,?_⟩
  rintro ⟨i,⟨q,o⟩,t⟩ ⟨⟨i1,i2⟩,e1,e2⟩
  simp only at i1 i2 e1 e2 ⊢
  subst e1;subst e2
  refine ⟨fun hi=>?_,fun hi=>?_⟩
  ·have hi:=of_decide_eq_true hi
   obtain ⟨i,rfl⟩:=Int.eq_ofNat_of_zero_le i1
   have hr:Int.tmod ((i:Int)+w) (sup.length:Int)<(sup.length:Int)∧0≤Int.tmod ((i:Int)+w) (sup.length:Int):=⟨Int.tmod_lt_of_pos _ (by omega),Int.tmod_nonneg _ (by omega)⟩
   refine ⟨by simp only [Z.in64];omega,by omega,⟨hr.2,hr.1⟩,rm5 (by simp;omega),by simp only [Z.in64];omega,trivial,trivial,trivial,⟨⟨by omega,by omega⟩,rfl,?_⟩,by omega⟩
   exact (range_app (fun j:Nat=>sup.getD (Int.toNat (Int.tmod ((j:Int)+w) (sup.length:Int))) (0,(0,0),0,0)) (i:Int) (by omega)).symm
  ·have hi:=of_decide_eq_false hi
   have e:i.toNat=sup.length:=by omega
   rw [e]
   refine ⟨trivial,trivial,trivial,fun _=>trivial,?_⟩
   show ((((((((((order_Meets (turnL sup w,o)).1==(order_Meets (sup,o)).1)&&((order_Meets (turnL sup w,o)).2==0))&&((order_Lack (turnL sup w,o)).1==(order_Lack (sup,o)).1))&&(((order_Lack (turnL sup w,o)).2).1==((order_Lack (sup,o)).2).1))&&(((order_Lack (turnL sup w,o)).2).2==((order_Lack (sup,o)).2).2))&&((order_Accept (turnL sup w,o)).1==(order_Accept (sup,o)).1))&&(((order_Accept (turnL sup w,o)).2).1==((order_Accept (sup,o)).2).1))&&(((order_Accept (turnL sup w,o)).2).2==0))&&true)=true
   rw [hT1,hT2,hT3,hM0,hA0]
   simp only [beq_self_eq_true,Bool.and_true]
end Go.Ord
