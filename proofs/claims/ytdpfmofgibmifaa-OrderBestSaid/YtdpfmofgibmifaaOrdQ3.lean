/-
  Chapter 10: OrderBest: a set of orders as a sale of its own.
-/
import Derived.Test.YtdpfmofgibmifaaOrdQ2
set_option linter.all false
set_option maxRecDepth 100000
set_option maxHeartbeats 4000000
set_option linter.unusedVariables false
namespace Go.Ord
open Go Go.Sx
def sumL:List Order→List Bool→Int
 | o::l,b::bs=>cond b o.2.1 0+sumL l bs
 | _,_=>0
def anyL (c:Order→Bool):List Order→List Bool→Bool
 | o::l,b::bs=>(b&&c o)||anyL c l bs
 | _,_=>false
def pickB {α:Type}:List Bool→List α→List α
 | true::xs,a::l=>a::pickB xs l
 | false::xs,_::l=>pickB xs l
 | _,_=>[]
def expandB:List Bool→List Bool→List Bool
 | true::xs,b::bs=>b::expandB xs bs
 | true::xs,[]=>false::expandB xs []
 | false::xs,bs=>false::expandB xs bs
 | [],_=>[]
def inB2:List Bool→List Bool→Bool
 | b::bs,x::xs=>(!b||x)&&inB2 bs xs
 | _,_=>true
theorem pick_sum:∀ (l:List Order) (xs bs:List Bool),xs.length=l.length→bs.length=l.length→inB2 bs xs=true→sumL (pickB xs l) (pickB xs bs)=sumL l bs
 | [],[],[],_,_,_=>rfl
 | [],_::_,_,h,_,_=>by cases h
 | [],[],_::_,_,h,_=>by cases h
 | o::l,[],_,h,_,_=>by cases h
 | o::l,_::_,[],_,h,_=>by cases h
 | o::l,x::xs,b::bs,h1,h2,h3=>by
  simp only [inB2,Bool.and_eq_true] at h3
  have ih:=pick_sum l xs bs (by simpa using h1) (by simpa using h2) h3.2
  cases x with
  | true=>simp only [pickB,sumL,ih]
  | false =>
   have hb:b=false:=by simpa using h3.1
   subst hb
   simp only [pickB,sumL,ih,cond_false,Int.zero_add]
theorem pick_any (c:Order→Bool):∀ (l:List Order) (xs bs:List Bool),xs.length=l.length→bs.length=l.length→inB2 bs xs=true→anyL c (pickB xs l) (pickB xs bs)=anyL c l bs
 | [],[],[],_,_,_=>rfl
 | [],_::_,_,h,_,_=>by cases h
 | [],[],_::_,_,h,_=>by cases h
 | o::l,[],_,h,_,_=>by cases h
 | o::l,_::_,[],_,h,_=>by cases h
 | o::l,x::xs,b::bs,h1,h2,h3=>by
  simp only [inB2,Bool.and_eq_true] at h3
  have ih:=pick_any c l xs bs (by simpa using h1) (by simpa using h2) h3.2
  cases x with
  | true=>simp only [pickB,anyL,ih]
  | false =>
   have hb:b=false:=by simpa using h3.1
   subst hb
   simp only [pickB,anyL,ih,Bool.false_and,Bool.false_or]
theorem exp_sum:∀ (l:List Order) (xs bs:List Bool),xs.length=l.length→sumL l (expandB xs bs)=sumL (pickB xs l) bs
 | [],[],_,_=>rfl
 | [],_::_,_,h=>by cases h
 | o::l,[],_,h=>by cases h
 | o::l,true::xs,b::bs,h=>by simp only [expandB,pickB,sumL,exp_sum l xs bs (by simpa using h)]
 | o::l,true::xs,[],h=>by
  have:=exp_sum l xs [] (by simpa using h)
  simp only [expandB,pickB,sumL,this,cond_false,Int.zero_add]
  cases pickB xs l<;>rfl
 | o::l,false::xs,bs,h=>by simp only [expandB,pickB,sumL,exp_sum l xs bs (by simpa using h),cond_false,Int.zero_add]
theorem exp_any (c:Order→Bool):∀ (l:List Order) (xs bs:List Bool),xs.length=l.length→anyL c l (expandB xs bs)=anyL c (pickB xs l) bs
 | [],[],_,_=>rfl
 | [],_::_,_,h=>by cases h
 | o::l,[],_,h=>by cases h
 | o::l,true::xs,b::bs,h=>by simp only [expandB,pickB,anyL,exp_any c l xs bs (by simpa using h)]
 | o::l,true::xs,[],h=>by
  have:=exp_any c l xs [] (by simpa using h)
  simp only [expandB,pickB,anyL,this,Bool.false_and,Bool.false_or]
  cases pickB xs l<;>rfl
 | o::l,false::xs,bs,h=>by simp only [expandB,pickB,anyL,exp_any c l xs bs (by simpa using h),Bool.false_and,Bool.false_or]
theorem exp_in:∀ (xs bs:List Bool),inB2 (expandB xs bs) xs=true
 | [],_=>rfl
 | true::xs,b::bs=>by simp only [expandB,inB2,exp_in xs bs];simp
 | true::xs,[]=>by simp only [expandB,inB2,exp_in xs []];simp
 | false::xs,bs=>by simp only [expandB,inB2,exp_in xs bs];simp
theorem exp_len:∀ (xs bs:List Bool),(expandB xs bs).length=xs.length
 | [],_=>rfl
 | true::xs,b::bs=>by simp only [expandB,List.length_cons,exp_len xs bs]
 | true::xs,[]=>by simp only [expandB,List.length_cons,exp_len xs []]
 | false::xs,bs=>by simp only [expandB,List.length_cons,exp_len xs bs]
theorem pickB_len {α β:Type}:∀ (xs:List Bool) (l:List α) (m:List β),l.length=m.length→(pickB xs l).length=(pickB xs m).length
 | [],_,_,_=>by simp [pickB]
 | true::xs,[],[],_=>rfl
 | false::xs,[],[],_=>rfl
 | true::xs,_::l,_::m,h=>by simp only [pickB,List.length_cons,pickB_len xs l m (by simpa using h)]
 | false::xs,_::l,_::m,h=>by simp only [pickB,pickB_len xs l m (by simpa using h)]
 | _::_,[],_::_,h=>by cases h
 | _::_,_::_,[],h=>by cases h
def bitsF (X:Int) (k n:Nat):List Bool:=(List.range' k n).map fun i=>hasB X ((i:Nat):Int)
theorem bitsF_succ (X:Int) (k n:Nat):bitsF X k (n+1)=hasB X (k:Nat)::bitsF X (k+1) n:=by
 simp [bitsF,List.range'_succ]
theorem bitsF_len (X:Int) (k n:Nat):(bitsF X k n).length=n:=by simp [bitsF]
theorem pickL_B (X:Int):∀ (l:List Order) (k:Nat),pickL X l k=pickB (bitsF X k l.length) l
 | [],k=>rfl
 | o::l,k=>by
  rw [List.length_cons,bitsF_succ,pickL]
  cases hasB X (k:Nat) with
  | true=>rw [cond_true,pickB,pickL_B X l]
  | false=>rw [cond_false,pickB,pickL_B X l]
theorem sel_sumL (X:Int):∀ (l:List Order) (k:Nat),selS (fun k=>hasB X (k:Nat)) (l.map fun o=>o.2.1) k=sumL l (bitsF X k l.length)
 | [],k=>rfl
 | o::l,k=>by rw [List.map_cons,selS,List.length_cons,bitsF_succ,sumL,sel_sumL X l]
theorem touch_anyL (c:Order→Bool) (X:Int) (l:List Order):touchB (setOf (l.map c)) X=anyL c l (bitsF X 0 l.length):=by
 have key:∀ (l:List Order) (k:Nat),anyL c l (bitsF X k l.length)=(List.range l.length).any fun i=>hasB X ((k+i:Nat):Int)&&(l.map c).getD i false:=by
  intro l
  induction l with
  | nil=>intro k;rfl
  | cons o l ih =>
   intro k
   rw [List.length_cons,bitsF_succ,anyL,ih (k+1),List.range_succ_eq_map,List.any_cons,List.any_map]
   congr 1
   congr 1
   funext i
   simp only [Function.comp]
   have:k+1+i=k+Nat.succ i:=by omega
   rw [this];rfl
 rw [touch_any,key l 0,List.length_map]
 simp only [Nat.zero_add]
def lackL (sup:List Supply) (ord:List Order) (bs:List Bool):Int :=
 sumL ord bs - (sup.map fun y=>cond (anyL (canB y.1 (worstReady y)) ord bs) (worstMany y) 0).sum
theorem lack_lackL (sup:List Supply) (ord:List Order) (X:Int):lackM (worstM (sup,ord)) X=lackL sup ord (bitsF X 0 ord.length):=by
 have key:∀ (l:List Supply) (k:Nat) (T:Nat→Bool),(∀ i,i<l.length→T (k+i)=anyL (canB (l.getD i noSupply).1 (worstReady (l.getD i noSupply))) ord (bitsF X 0 ord.length)) →
   selS T (l.map worstMany) k=(l.map fun y=>cond (anyL (canB y.1 (worstReady y)) ord (bitsF X 0 ord.length)) (worstMany y) 0).sum:=by
  intro l
  induction l with
  | nil=>intro k T _;rfl
  | cons y l ih =>
   intro k T hT
   have h0:=hT 0 (by simp)
   rw [Nat.add_zero] at h0
   rw [List.map_cons,selS,List.map_cons,List.sum_cons,h0,ih (k+1) T fun i hi=>by
    have:=hT (i+1) (by simpa using hi)
    rw [show k+(i+1)=k+1+i from by omega] at this
    exact this]
   rfl
 simp only [lackM,lackL]
 rw [show (worstM (sup,ord)).1=ord.map fun o=>o.2.1 from rfl,sel_sumL,show (worstM (sup,ord)).2.1=sup.map worstMany from rfl,key sup 0]
 intro i hi
 rw [Nat.zero_add,←touch_anyL]
 congr 1
 simp [worstM,marketV,List.getD,hi]
theorem bits_setOf (bs:List Bool):bitsF (setOf bs) 0 bs.length=bs:=by
 apply List.ext_getElem
 ·simp [bitsF]
 ·intro i h1 h2
  simp only [bitsF,List.getElem_map,List.getElem_range',Nat.zero_add,Nat.one_mul,has_setOf]
  simp [List.getD,h2]
theorem inB2u_iff:∀ {bs xs:List Bool},bs.length=xs.length→(inB2 bs xs=true↔∀ i:Nat,bs.getD i false=true→xs.getD i false=true)
 | [],[],_=>⟨fun _ i h=>by simp at h,fun _=>rfl⟩
 | b::bs,x::xs,h=>by
  rw [inB2,Bool.and_eq_true,inB2u_iff (by simpa using h)]
  constructor
  ·rintro ⟨h1,h2⟩ i hi
   cases i with
   | zero =>
    have hi:b=true:=by simpa using hi
    rw [hi] at h1
    simpa using h1
   | succ i=>exact h2 i (by simpa using hi)
  ·intro hh
   refine ⟨?_,fun i hi=>by simpa using hh (i+1) (by simpa using hi)⟩
   have:=hh 0
   cases b<;>simp_all
 | [],_::_,h=>by cases h
 | _::_,[],h=>by cases h
theorem bitsF_getD {X:Int} {n:Nat} (hX:under n X) (i:Nat):(bitsF X 0 n).getD i false=hasB X (i:Nat):=by
 by_cases h:i<n
 ·simp [bitsF,List.getD,h]
 ·rw [under_bit hX (by omega)]
  simp only [List.getD]
  rw [List.getElem?_eq_none (by rw [bitsF_len];omega)]
  rfl
theorem setOf_under (bs:List Bool):under bs.length (setOf bs):=by
 have:=setN_lt bs
 refine ⟨Int.natCast_nonneg _,?_⟩
 rw [pow_nat]
 simp only [setOf];omega
theorem parts_iff {n:Nat} {X Y:Int} (hX:under n X):Y∈partsV X↔under n Y∧inB2 (bitsF Y 0 n) (bitsF X 0 n)=true:=by
 rw [inB2u_iff (by rw [bitsF_len,bitsF_len])]
 simp only [partsV,List.mem_filter,setsTo_mem]
 constructor
 ·rintro ⟨⟨h1,h2⟩,h3⟩
  have hX0:=hX.1
  have hY:under n Y:=under_le hX h1 (by omega)
  refine ⟨hY,fun i hi=>?_⟩
  rw [bitsF_getD hY] at hi
  rw [bitsF_getD hX]
  exact (sub_iff h1 hX.1).1 h3 i hi
 ·rintro ⟨hY,h⟩
  have hs:subB Y X=true:=(sub_iff hY.1 hX.1).2 fun k hk=>by
   have:=h k (by rw [bitsF_getD hY];exact hk)
   rwa [bitsF_getD hX] at this
  refine ⟨⟨hY.1,?_⟩,hs⟩
  obtain ⟨a,rfl,ha⟩:=under_nat hY
  obtain ⟨b,rfl,hb⟩:=under_nat hX
  simp only [subB,Int.toNat_natCast,beq_iff_eq] at hs
  have hx0:a ^^^ (a &&& b)=0:=by omega
  have hab:a &&& b=a:=by
   apply Nat.eq_of_testBit_eq
   intro k
   have:=congrArg (fun x=>x.testBit k) hx0
   simp only [Nat.testBit_xor,Nat.testBit_and,Nat.zero_testBit] at this
   rw [Nat.testBit_and]
   cases h1:a.testBit k<;>cases h2:b.testBit k<;>simp_all
  have hle:a &&& b≤b:=Nat.and_le_right
  rw [hab] at hle
  rw [Int.toNat_natCast];omega
theorem meets_bits {sup:List Supply} {ord:List Order} {X:Int} (hX:under ord.length X):meetsM (worstM (sup,ord)) X=true↔∀ bs:List Bool,bs.length=ord.length→inB2 bs (bitsF X 0 ord.length)=true→lackL sup ord bs≤0:=by
 rw [meets_iff]
 constructor
 ·intro h bs hl hi
  have hu:=setOf_under bs
  rw [hl] at hu
  have hb:bitsF (setOf bs) 0 ord.length=bs:=by rw [←hl,bits_setOf]
  have:=h (setOf bs) ((parts_iff hX).2 ⟨hu,by rw [hb];exact hi⟩)
  rwa [lack_lackL,hb] at this
 ·intro h Y hY
  obtain ⟨hu,hi⟩:=(parts_iff hX).1 hY
  rw [lack_lackL]
  exact h _ (bitsF_len _ _ _) hi
theorem bits_all (n:Nat):∀ bs:List Bool,bs.length=n→inB2 bs (bitsF (allV n) 0 n)=true:=by
 intro bs hl
 rw [inB2u_iff (by rw [bitsF_len,hl])]
 intro i hi
 have hin:i<n:=by
  refine Classical.byContradiction fun hn=>?_
  simp only [List.getD] at hi
  rw [List.getElem?_eq_none (by omega)] at hi
  cases hi
 rw [bitsF_getD (all_under' n)]
 have e:(allV n).toNat=2^n - 1:=by
  have:=Nat.pow_pos (n:=n) (show 0<2 by decide)
  simp only [allV];rw [pow_nat];omega
 simp only [hasB,e,Int.toNat_natCast]
 rw [Nat.testBit_two_pow_sub_one]
 exact decide_eq_true hin
theorem lackL_pick (sup:List Supply) {l:List Order} {xs bs:List Bool} (h1:xs.length=l.length) (h2:bs.length=l.length) (h3:inB2 bs xs=true):lackL sup (pickB xs l) (pickB xs bs)=lackL sup l bs:=by
 simp only [lackL,pick_sum l xs bs h1 h2 h3,fun c=>pick_any c l xs bs h1 h2 h3]
theorem lackL_exp (sup:List Supply) {l:List Order} {xs:List Bool} (bs:List Bool) (h1:xs.length=l.length):lackL sup l (expandB xs bs)=lackL sup (pickB xs l) bs:=by
 simp only [lackL,exp_sum l xs bs h1,fun c=>exp_any c l xs bs h1]
theorem own_meets {sup:List Supply} {ord:List Order} {X:Int} (hX:under ord.length X):meetsM (worstM (ownV (sup,ord) X)) (allV (ownV (sup,ord) X).2.length)=meetsM (worstM (sup,ord)) X:=by
 have eo:ownV (sup,ord) X=(sup,pickB (bitsF X 0 ord.length) ord):=by rw [ownV,pickL_B]
 rw [eo]
 have hxl:(bitsF X 0 ord.length).length=ord.length:=bitsF_len _ _ _
 refine bool_ext ?_
 rw [meets_bits (all_under' _),meets_bits hX]
 constructor
 ·intro h bs hl hi
  rw [←lackL_pick sup hxl hl hi]
  have hpl:(pickB (bitsF X 0 ord.length) bs).length=(pickB (bitsF X 0 ord.length) ord).length:=pickB_len _ _ _ hl
  exact h _ hpl (bits_all _ _ hpl)
 ·intro h bs _ _
  rw [←lackL_exp sup bs hxl]
  exact h _ (by rw [exp_len,hxl]) (exp_in _ _)
theorem pickL_app (X:Int) (o:Order):∀ (l:List Order) (k:Nat),pickL X (l++[o]) k=pickL X l k++cond (hasB X ((k+l.length:Nat):Int)) [o] []
 | [],k=>by
  simp only [List.nil_append,pickL,List.length_nil,Nat.add_zero]
 | a::l,k=>by
  rw [List.cons_append,pickL,pickL,pickL_app X o l (k+1),List.length_cons]
  have:k+1+l.length=k+(l.length+1):=by omega
  rw [this]
  cases hasB X (k:Nat)<;>simp
theorem pickL_mem (X:Int):∀ (l:List Order) (k:Nat),∀ o∈pickL X l k,o∈l
 | [],k,o,h=>by cases h
 | a::l,k,o,h=>by
  rw [pickL] at h
  cases hb:hasB X (k:Nat) with
  | true =>
   rw [hb,cond_true] at h
   rcases List.mem_cons.1 h with rfl | h
   ·exact List.mem_cons_self
   ·exact List.mem_cons_of_mem _ (pickL_mem X l _ o h)
  | false =>
   rw [hb,cond_false] at h
   exact List.mem_cons_of_mem _ (pickL_mem X l _ o h)
theorem pickL_len (X:Int):∀ (l:List Order) (k:Nat),(pickL X l k).length≤l.length
 | [],k=>Nat.le_refl _
 | a::l,k=>by
  rw [pickL]
  have:=pickL_len X l (k+1)
  cases hasB X (k:Nat)<;>simp<;>omega
theorem own_sale {s:Sale} (h:saleB s=true) (X:Int):saleB (ownV s X)=true:=by
 have S:=sale_iff.1 h
 refine sale_iff.2 ⟨S.s8,Nat.le_trans (pickL_len X s.2 0) S.o8,S.sup,fun o ho=>S.ord o (pickL_mem X s.2 0 o ho)⟩
theorem rm4 {n:Int} (hn:n≤100):Z.roomy 4 n:=roomy_of (by decide) (by decide) (by omega)
theorem v34 (x:Int × Sale) (hp:k34.pre x):V34 x:=by
 obtain ⟨X,sup,ord⟩:=x
 obtain ⟨h,hX⟩:saleB (sup,ord)=true∧under ord.length X:=hp
 have S:=sale_iff.1 h
 have ho8:(ord.length:Int)≤8:=by have:=S.o8;simp only at this;omega
 have prices:∀ a∈ord.map (fun o:Order=>o.2.2.2),amount a:=by
  intro a ha
  obtain ⟨o,ho,rfl⟩:=List.mem_map.1 ha
  have:=order_iff.1 (S.ord o ho)
  exact ⟨this.2.2.2.1,by have:=this.2.2.2.2;simp only [topN];omega⟩
 have pl:(ord.map (fun o:Order=>o.2.2.2)).length=ord.length:=by simp
 refine ⟨fun s=>0≤s.2.1∧s.2.1≤(ord.length:Int)∧s.1=selS (fun k=>hasB X (k:Nat)) ((ord.map fun o=>o.2.2.2).take s.2.1.toNat) 0∧s.2.2.1=(sup,[])∧s.2.2.2=pickL X (ord.take s.2.1.toNat) 0,fun s=>((ord.length:Int) - s.2.1).toNat,⟨by simp,by simp,rfl,rfl,rfl⟩,?_⟩
 rintro ⟨a,k,c,l⟩ ⟨k1,k2,e1,e2,e3⟩
 simp only at k1 k2 e1 e2 e3 ⊢
 subst e1;subst e2;subst e3
 have bk:=selS_tb (p:=fun k=>hasB X (k:Nat)) (by rw [pl];omega) prices k
 have hpl:(pickL X (ord.take k.toNat) 0).length≤8:=by
  have:=pickL_len X (ord.take k.toNat) 0
  rw [List.length_take] at this;omega
 refine ⟨fun hk=>?_,fun hk=>?_⟩
 ·have hk:=of_decide_eq_true hk
  have es:=selS_step (fun k=>hasB X (k:Nat)) (ord.map fun o:Order=>o.2.2.2) k k1 (by rw [pl];exact hk)
  have ek:((k.toNat:Nat):Int)=k:=by omega
  have eg:(ord.map fun o:Order=>o.2.2.2).getD k.toNat 0=(ord.getD k.toNat (0,0,0,0)).2.2.2:=by
   simp only [List.getD,List.getElem?_map]
   cases ord[k.toNat]?<;>rfl
  have hak:=prices _ (getD_mem' (ord.map fun o:Order=>o.2.2.2) 0 k k1 (by rw [pl];exact hk))
  rw [eg] at hak es
  simp only [amount,topN] at hak bk
  rw [ek] at es
  have et:ord.take (k+1).toNat=ord.take k.toNat++[ord.getD k.toNat (0,0,0,0)]:=by
   have:=take_map (id:Order→Order) ord (0,0,0,0) k k1 hk
   simpa using this
  have epk:pickL X (ord.take (k+1).toNat) 0=pickL X (ord.take k.toNat) 0++cond (hasB X k) [ord.getD k.toNat (0,0,0,0)] []:=by
   rw [et,pickL_app]
   have:((0+(ord.take k.toNat).length:Nat):Int)=k:=by rw [List.length_take];omega
   rw [this]
  refine ⟨⟨k1,hk⟩,⟨k1,by omega⟩,⟨?_,by decide⟩,fun hb=>⟨rm4 (by rw [List.length_append];simp;omega),by simp only [Z.in64];omega,by simp only [Z.in64];omega,⟨by show 0≤k+1;omega,by show k+1≤_;omega,?_,?_,?_⟩,?_⟩,fun hb=>⟨by simp only [Z.in64];omega,⟨by show 0≤k+1;omega,by show k+1≤_;omega,?_,?_,?_⟩,?_⟩⟩
  all_goals first | trivial | rfl | skip
  ·rw [Int.fdiv_eq_ediv_of_nonneg _ (Int.le_of_lt (Int.pow_pos (by decide)))]
   exact Int.ediv_nonneg hX.1 (Int.le_of_lt (Int.pow_pos (by decide)))
  ·rw [has_div hX.1 k1] at hb
   show _=selS _ (List.take (k+1).toNat _) 0
   rw [es,hb,cond_true]
  ·rw [has_div hX.1 k1] at hb
   show _=pickL X (ord.take (k+1).toNat) 0
   rw [epk,hb];rfl
  ·show ((ord.length:Int) - (k+1)).toNat<((ord.length:Int) - k).toNat
   omega
  ·rw [has_div hX.1 k1] at hb
   show _=selS _ (List.take (k+1).toNat _) 0
   rw [es,hb];simp
  ·rw [has_div hX.1 k1] at hb
   show _=pickL X (ord.take (k+1).toNat) 0
   rw [epk,hb];simp
  ·show ((ord.length:Int) - (k+1)).toNat<((ord.length:Int) - k).toNat
   omega
 ·have hk:=of_decide_eq_false hk
  rw [List.take_of_length_le (l:=ord) (by omega),List.take_of_length_le (l:=ord.map fun o:Order=>o.2.2.2) (by rw [pl];omega)]
  exact ⟨trivial,rfl⟩
theorem v10 (x:Sale × Int) (hp:k10.pre x):V10 x:=by
 obtain ⟨⟨sup,ord⟩,by_⟩:=x
 obtain ⟨hb0,hb1⟩:0≤by_∧by_<256:=hp
 refine ⟨trivial,fun hg=>great_short hg,fun _=>⟨trivial,rfl⟩,fun hg=>?_⟩
 rw [Bool.or_eq_false_iff] at hg
 have h:saleB (sup,ord)=true:=by simpa using (show (!saleB (sup,ord))=false from hg.2)
 have S:=sale_iff.1 h
 have ho8:ord.length≤8:=S.o8
 have hshl:=shl_ok (k:=(ord.length:Int)) (by omega) (by omega)
 have hpw:=Nat.pow_pos (n:=ord.length) (show 0<2 by decide)
 have hpi:(1*2^(Int.toNat (ord.length:Int)):Int)=((2^ord.length:Nat):Int):=by rw [Int.toNat_natCast,Int.one_mul,pow_nat]
 obtain ⟨N,hN⟩:∃ N,N=2^ord.length:=⟨_,rfl⟩
 obtain ⟨o,ho⟩:∃ o,o=Int.tmod by_ (1*2^(Int.toNat (ord.length:Int))):=⟨_,rfl⟩
 have hor:0≤o∧o<(N:Int):=by
  rw [ho,hpi,←hN,Int.tmod_eq_emod_of_nonneg hb0]
  exact ⟨Int.emod_nonneg _ (by omega),Int.emod_lt_of_pos _ (by omega)⟩
 have hou:under ord.length o:=⟨hor.1,by rw [pow_nat,←hN];exact hor.2⟩
 have hom:o∈setsTo (2^ord.length):=setsTo_mem.2 ⟨hor.1,by rw [←hN];exact hor.2⟩
 obtain ⟨ha0,hau,hA⟩:=accept_spec h
 have hau:under ord.length (order_Accept (sup,ord)).1:=hau
 have hau2:(order_Accept (sup,ord)).1<1*2^(Int.toNat (ord.length:Int)):=by
  rw [Int.toNat_natCast,Int.one_mul];exact hau.2
 have own:∀ Y,under ord.length Y→law10u_OrderBest_1 (Y,(sup,ord))=(meetsM (worstM (sup,ord)) Y,priceV ord Y):=by
  intro Y hY
  have hs:=own_sale h Y
  obtain ⟨m0,m1⟩:=meets_ok hs
  rw [own_meets hY] at m1
  have:((order_Meets (ownV (sup,ord) Y)).2==0&&(order_Meets (ownV (sup,ord) Y)).1==2)=meetsM (worstM (sup,ord)) Y:=by
   rw [m0]
   rcases m1 with ⟨h1,h2⟩ | ⟨h1,h2,_⟩ | ⟨h1,h2,_⟩<;>rw [h1,h2]<;>rfl
  show ((order_Meets (ownV (sup,ord) Y)).2==0&&(order_Meets (ownV (sup,ord) Y)).1==2,priceV ord Y)=_
  rw [this]
 rw [←ho]
 refine ⟨trivial,fun _=>⟨⟨by omega,by show (ord.length:Int)<64;omega⟩,hshl.2⟩,fun hb=>?_,fun _=>⟨⟨h,hau⟩,⟨⟨by omega,by show (ord.length:Int)<64;omega⟩,hshl.2⟩,by show (1*2^(Int.toNat (ord.length:Int)):Int)≠0;rw [hpi];omega,⟨h,hou⟩,fun _=>trivial,?_⟩⟩
 ·exfalso
  have hb:(((!((order_Accept (sup,ord)).2.2==0))||decide ((order_Accept (sup,ord)).1<0))||decide (1*2^(Int.toNat (ord.length:Int))≤(order_Accept (sup,ord)).1))=true:=hb
  rw [ha0,decide_eq_false (by have:=hau.1;omega:¬ (order_Accept (sup,ord)).1<0),decide_eq_false (by omega:¬ 1*2^(Int.toNat (ord.length:Int))≤(order_Accept (sup,ord)).1)] at hb
  cases hb
 ·rw [own _ hau,own _ hou]
  have hv:priceV ord (order_Accept (sup,ord)).1=(order_Accept (sup,ord)).2.1:=hA.val
  have hmet:meetsM (worstM (sup,ord)) (order_Accept (sup,ord)).1=true:=hA.met
  show (((meetsM (worstM (sup,ord)) (order_Accept (sup,ord)).1&&(priceV ord (order_Accept (sup,ord)).1==(order_Accept (sup,ord)).2.1))&&(((!(meetsM (worstM (sup,ord)) o))||decide (priceV ord o<(order_Accept (sup,ord)).2.1))||((priceV ord o==(order_Accept (sup,ord)).2.1)&&decide ((order_Accept (sup,ord)).1≤o))))&&true)=true
  rw [hmet,hv,beq_self_eq_true]
  cases hmo:meetsM (worstM (sup,ord)) o with
  | false=>rfl
  | true =>
   have h1:priceV ord o≤(order_Accept (sup,ord)).2.1:=hA.max o hom hmo
   by_cases e:priceV ord o=(order_Accept (sup,ord)).2.1
   ·have h2:(order_Accept (sup,ord)).1≤o:=hA.first o hom hmo e
    rw [beq_iff_eq.2 e,decide_eq_true h2]
    simp
   ·rw [decide_eq_true (by omega:priceV ord o<(order_Accept (sup,ord)).2.1)]
    rfl
end Go.Ord
