/-
  The symbolic layer, part 21: regions that draw their order.
-/
import Derived.Test.YtlmcahfjedlokaaSD
import Derived.Scope
set_option linter.all false
namespace Go.Sx
structure Dat where
 o:Oper
 g:List (Nat × Bool)
 e:Eff
def st (D:Nat→Bool):Nat→List Dat→ASt→ASt
 | _,[],s=>s
 | k,d::r,s=>st D (k+1) r (if D k=true then s.app d.o.dst d.g d.e else s)
theorem app_env {s:ASt} {d:Option Nat} {g:List (Nat × Bool)} {e:Eff} (t:Nat):(s.app d g e).env t=if d=some t then ⟨g,e.av⟩ else s.env t:=by
 unfold ASt.app
 cases d with
 | none=>rfl
 | some d =>
  by_cases h:d=t
  ·subst h;simp [put_same]
  ·simp only [Option.some.injEq,if_neg h]
   exact put_other _ _ (Ne.symm h)
theorem puts_in {α:Type} {f f':Nat→α} {x:Nat}:∀ {r:List (Nat × α)},x∈r.map (·.1)→puts f r x=puts f' r x
 | (k,v)::r,h=>by
  by_cases hk:x=k
  ·subst hk;simp only [puts,put_same]
  ·simp only [puts,put_other _ _ hk]
   exact puts_in ((List.mem_cons.1 h).resolve_left hk)
theorem puts_out {α:Type} {f:Nat→α} {x:Nat} {r:List (Nat × α)} (h:x∉r.map (·.1)):puts f r x=f x :=
 puts_other fun y hy e=>h (e▸List.mem_map_of_mem hy)
theorem app_obs {s:ASt} {d:Option Nat} {g:List (Nat × Bool)} {e:Eff} (x:Nat):(s.app d g e).obs x=puts s.obs (e.wr.map fun x=>(x.1,some x.2)) x:=rfl
theorem keys_wr (l:List (Nat × Option Ob)):(l.map fun x=>(x.1,some x.2)).map (·.1)=l.map (·.1):=by
 rw [List.map_map];rfl
theorem st_env {D D':Nat→Bool} {t:Nat}:∀ {ds:List Dat} {k:Nat} {s s':ASt},(∀ j d,ds[j]?=some d→d.o.dst=some t→D (k+j)=D' (k+j))→s.env t=s'.env t→(st D k ds s).env t=(st D' k ds s').env t
 | [],_,_,_,_,h=>h
 | d::r,k,s,s',hD,h=>by
  simp only [st]
  refine st_env (fun j d' hj hd'=>?_) ?_
  ·have:=hD (j+1) d' (by simpa using hj) hd'
   rwa [show k+(j+1)=k+1+j by omega] at this
  ·by_cases hd:d.o.dst=some t
   ·have:=hD 0 d rfl hd
    rw [Nat.add_zero] at this
    rw [this]
    split
    ·simp only [app_env,hd,if_true]
    ·exact h
   ·have e1:∀ (b:Bool) (s:ASt),(if b=true then s.app d.o.dst d.g d.e else s).env t=s.env t:=fun b s=>by
     split
     ·rw [app_env,if_neg hd]
     ·rfl
    rw [e1,e1];exact h
theorem st_obs {D D':Nat→Bool} {x:Nat}:∀ {ds:List Dat} {k:Nat} {s s':ASt},(∀ j d,ds[j]?=some d→x∈d.e.wr.map (·.1)→D (k+j)=D' (k+j))→s.obs x=s'.obs x→(st D k ds s).obs x=(st D' k ds s').obs x
 | [],_,_,_,_,h=>h
 | d::r,k,s,s',hD,h=>by
  simp only [st]
  refine st_obs (fun j d' hj hd'=>?_) ?_
  ·have:=hD (j+1) d' (by simpa using hj) hd'
   rwa [show k+(j+1)=k+1+j by omega] at this
  ·by_cases hd:x∈d.e.wr.map (·.1)
   ·have:=hD 0 d rfl hd
    rw [Nat.add_zero] at this
    rw [this]
    split
    ·rw [app_obs,app_obs]
     exact puts_in (by rw [keys_wr];exact hd)
    ·exact h
   ·have e1:∀ (b:Bool) (s:ASt),(if b=true then s.app d.o.dst d.g d.e else s).obs x=s.obs x:=fun b s=>by
     split
     ·rw [app_obs,puts_out (by rw [keys_wr];exact hd)]
     ·rfl
    rw [e1,e1];exact h
theorem st_none {D:Nat→Bool}:∀ {ds:List Dat} {k:Nat} {s:ASt},(∀ j,j<ds.length→D (k+j)=false)→st D k ds s=s
 | [],_,_,_=>rfl
 | d::r,k,s,h=>by
  have h0:=h 0 (by simp)
  rw [Nat.add_zero] at h0
  simp only [st,h0]
  exact st_none fun j hj=>by
   have:=h (j+1) (by simp;omega)
   rwa [show k+(j+1)=k+1+j by omega] at this
theorem st_shift {D:Nat→Bool}:∀ {ds:List Dat} {k:Nat} {s:ASt},st D (k+1) ds s=st (fun j=>D (j+1)) k ds s
 | [],_,_=>rfl
 | d::r,k,s=>by simp only [st];exact st_shift
theorem st_congr {D D':Nat→Bool}:∀ {ds:List Dat} {k:Nat} {s:ASt},(∀ j,j<ds.length→D (k+j)=D' (k+j))→st D k ds s=st D' k ds s
 | [],_,_,_=>rfl
 | d::r,k,s,h=>by
  have h0:=h 0 (by simp)
  rw [Nat.add_zero] at h0
  simp only [st,h0]
  exact st_congr fun j hj=>by
   have:=h (j+1) (by simp;omega)
   rwa [show k+(j+1)=k+1+j by omega] at this
section
variable {cx:Cx} {ops:Array Oper}
def Ran (cx:Cx) (ops:Array Oper):List Dat→List Foot→ASt→Prop
 | [],[],_=>True
 | d::r,f::fs,s=>(chain s ops d.o=some d.g∧eff cx s d.g d.o=some d.e∧(d.g≠[]→d.e.wr=[])∧(∀ x,d.o.dst=some x→x<cx.nt)∧f=⟨d.g.map (·.1),opIds cx s d.g d.o,d.e.wr.map (·.1)⟩ ∧
   ∀ p,d.e.obl=some p→(∀ c,gCond s d.g=some c→c)→p)∧Ran cx ops r fs (s.app d.o.dst d.g d.e)
 | _,_,_=>False
theorem ran_of:∀ {l:List Oper} {s:ASt} {R:Run},runOps cx ops l s=some R→(∀ p∈R.obls,p)→∃ ds,ds.map (·.o)=l∧Ran cx ops ds R.feet s∧R.s=st (fun _=>true) 0 ds s
 | [],s,R,h,_=>by
  simp only [runOps,Option.some.injEq] at h
  subst h
  exact ⟨[],rfl,trivial,rfl⟩
 | o::l,s,R,h,hall=>by
  obtain ⟨g,e,R',h1,h2,h3,h4,h5,h6,h7,h8,h9⟩:=runOps_cons h
  obtain ⟨ds,d1,d2,d3⟩:=ran_of h5 fun p hp=>hall p (h8 p hp)
  refine ⟨⟨o,g,e⟩::ds,by simp [d1],?_,?_⟩
  ·rw [h7]
   exact ⟨⟨h1,h2,h3,h4,rfl,fun p hp hc=>h9 p hp hall hc⟩,d2⟩
  ·rw [h6,d3]
   simp only [st,if_true]
   rw [st_shift]
theorem ran_get:∀ {ds:List Dat} {fs:List Foot} {s:ASt},Ran cx ops ds fs s→∀ {i:Nat} {d:Dat},ds[i]?=some d→∃ f,fs[i]?=some f ∧
  (chain (st (fun j=>decide (j<i)) 0 ds s) ops d.o=some d.g∧eff cx (st (fun j=>decide (j<i)) 0 ds s) d.g d.o=some d.e∧(d.g≠[]→d.e.wr=[])∧(∀ x,d.o.dst=some x→x<cx.nt) ∧
   f=⟨d.g.map (·.1),opIds cx (st (fun j=>decide (j<i)) 0 ds s) d.g d.o,d.e.wr.map (·.1)⟩ ∧
   ∀ p,d.e.obl=some p→(∀ c,gCond (st (fun j=>decide (j<i)) 0 ds s) d.g=some c→c)→p)
 | [],[],_,_,i,d,h=>by simp at h
 | d₀::r,f::fs,s,hr,0,d,h=>by
  simp only [List.getElem?_cons_zero,Option.some.injEq] at h
  subst h
  refine ⟨f,rfl,?_⟩
  rw [st_none (fun j _=>by simp)]
  exact hr.1
 | d₀::r,f::fs,s,hr,i+1,d,h=>by
  obtain ⟨f',h1,h2⟩:=ran_get hr.2 (i:=i) (d:=d) (by simpa using h)
  refine ⟨f',by simpa using h1,?_⟩
  have e1:st (fun j=>decide (j<i+1)) 0 (d₀::r) s=st (fun j=>decide (j<i)) 0 r (s.app d₀.o.dst d₀.g d₀.e):=by
   simp only [st]
   rw [if_pos (by simp),st_shift]
   exact st_congr fun j _=>by simp
  rw [e1]
  exact h2
 | [],_::_,_,hr,_,_,_=>hr.elim
 | _::_,[],_,hr,_,_,_=>hr.elim
theorem st_env_at {D:Nat→Bool} {t:Nat}:∀ {ds:List Dat} {k i:Nat} {d:Dat} {s:ASt},ds[i]?=some d→D (k+i)=true→d.o.dst=some t→(∀ j d',i<j→ds[j]?=some d'→d'.o.dst=some t→D (k+j)=false)→(st D k ds s).env t=⟨d.g,d.e.av⟩
 | d₀::r,k,0,d,s,h,hD,hd,hl=>by
  simp only [List.getElem?_cons_zero,Option.some.injEq] at h
  subst h
  rw [Nat.add_zero] at hD
  simp only [st,hD,if_true]
  rw [st_env (D':=fun _=>false) (s':=s.app d₀.o.dst d₀.g d₀.e) (fun j d' hj hd'=>by
   have:=hl (j+1) d' (by omega) (by simpa using hj) hd'
   rwa [show k+(j+1)=k+1+j by omega] at this) rfl,st_none (fun _ _=>rfl),app_env,if_pos hd]
 | d₀::r,k,i+1,d,s,h,hD,hd,hl=>by
  simp only [st]
  exact st_env_at (i:=i) (by simpa using h) (by rwa [show k+1+i=k+(i+1) by omega]) hd fun j d' hj hj' hd'=>by
   have:=hl (j+1) d' (by omega) (by simpa using hj') hd'
   rwa [show k+(j+1)=k+1+j by omega] at this
 | [],_,i,_,_,h,_,_,_=>by simp at h
theorem st_obs_at {D:Nat→Bool} {x:Nat}:∀ {ds:List Dat} {k i:Nat} {d:Dat} {s:ASt} (s₁:ASt),ds[i]?=some d→D (k+i)=true→x∈d.e.wr.map (·.1)→(∀ j d',i<j→ds[j]?=some d'→x∈d'.e.wr.map (·.1)→D (k+j)=false)→(st D k ds s).obs x=(s₁.app d.o.dst d.g d.e).obs x
 | d₀::r,k,0,d,s,s₁,h,hD,hd,hl=>by
  simp only [List.getElem?_cons_zero,Option.some.injEq] at h
  subst h
  rw [Nat.add_zero] at hD
  simp only [st,hD,if_true]
  rw [st_obs (D':=fun _=>false) (s':=s.app d₀.o.dst d₀.g d₀.e) (fun j d' hj hd'=>by
   have:=hl (j+1) d' (by omega) (by simpa using hj) hd'
   rwa [show k+(j+1)=k+1+j by omega] at this) rfl,st_none (fun _ _=>rfl),app_obs,app_obs]
  exact puts_in (by rw [keys_wr];exact hd)
 | d₀::r,k,i+1,d,s,s₁,h,hD,hd,hl=>by
  simp only [st]
  exact st_obs_at (i:=i) s₁ (by simpa using h) (by rwa [show k+1+i=k+(i+1) by omega]) hd fun j d' hj hj' hd'=>by
   have:=hl (j+1) d' (by omega) (by simpa using hj') hd'
   rwa [show k+(j+1)=k+1+j by omega] at this
 | [],_,i,_,_,_,h,_,_,_=>by simp at h
def Cl (ops:Array Oper) (D:Nat→Prop) (j:Nat):Prop:=∀ o,ops[j]?=some o→∀ e∈o.after,Region.binds .any e=true→D e.on
theorem preds_bit {o:Oper} {acc:List Nat} {i:Nat} (h:(preds o acc).testBit i=true):∃ e∈o.after,Region.binds .any e=true∧(i=e.on∨(acc.getD e.on 0).testBit i=true):=by
 have key:∀ (l:List Edge) (s:Nat),(l.foldl (fun s e=>if Region.binds .any e then s ||| 2^e.on ||| acc.getD e.on 0 else s) s).testBit i=true→s.testBit i=true∨∃ e∈l,Region.binds .any e=true∧(i=e.on∨(acc.getD e.on 0).testBit i=true):=by
  intro l
  induction l with
  | nil=>intro s h;exact .inl h
  | cons e l ih =>
   intro s h
   rcases ih _ h with h | ⟨e',he',h⟩
   ·simp only [] at h
    split at h
    ·rename_i hb
     simp only [Nat.testBit_or,Bool.or_eq_true,Nat.testBit_two_pow] at h
     rcases h with (h | h) | h
     ·exact .inl h
     ·exact .inr ⟨e,List.mem_cons_self,hb,.inl (by simpa using (by simpa using h:e.on=i).symm)⟩
     ·exact .inr ⟨e,List.mem_cons_self,hb,.inr h⟩
    ·exact .inl h
   ·exact .inr ⟨e',List.mem_cons_of_mem _ he',h⟩
 rcases key _ _ h with h | ⟨e,he,h⟩
 ·simp at h
 ·exact ⟨e,Array.mem_toList_iff.1 he,h⟩
theorem bef_good {D:Nat→Prop} (hcl:∀ j,D j→Cl ops D j):∀ {l:List Oper} {acc:List Nat},(∀ j,l[j]?=ops[acc.length+j]?)→(∀ j,Cl ops D j→∀ i,(acc.getD j 0).testBit i=true→D i)→∀ j,Cl ops D j→∀ i,((befL l acc).getD j 0).testBit i=true→D i
 | [],_,_,h=>h
 | o::l,acc,hl,h=>by
  refine bef_good hcl (l:=l) (fun j=>?_) (fun j hj i hi=>?_)
  ·have:=hl (j+1)
   simp only [List.getElem?_cons_succ] at this
   rw [this];simp;congr 1;omega
  ·by_cases hlt:j<acc.length
   ·rw [show (acc++[preds o acc]).getD j 0=acc.getD j 0 by simp [List.getD,List.getElem?_append_left hlt]] at hi
    exact h j hj i hi
   ·by_cases he:j=acc.length
    ·subst he
     have:(acc++[preds o acc]).getD acc.length 0=preds o acc:=by simp [List.getD]
     rw [this] at hi
     obtain ⟨e,he,hb,hi⟩:=preds_bit hi
     have ho:ops[acc.length]?=some o:=by have:=hl 0;simpa using this.symm
     have hD:=hj o ho e he hb
     rcases hi with rfl | hi
     ·exact hD
     ·exact h _ (hcl _ hD) i hi
    ·have:(acc++[preds o acc]).getD j 0=0:=by
      rw [List.getD_eq_getElem?_getD,List.getElem?_eq_none (by simp;omega)];rfl
     rw [this] at hi
     simp at hi
theorem disj_not {a b:List Nat} (h:disj a b=true) {x:Nat} (h1:x∈a) (h2:x∈b):False:=by
 simp only [disj,List.all_eq_true,Bool.not_eq_true'] at h
 have:=h x h1
 rw [memN_iff.2 h2] at this;cases this
structure DrawF (ops:Array Oper) (m:Nat) (ts:List Touch):Prop where
 guard:∀ j i b,guardAt ops j=some (i,b)→((befL ops.toList []).getD j 0).testBit i=true
 back:∀ j o,ops[j]?=some o→∀ e∈o.after,Region.binds .any e=true→e.on<j
 apart:∀ i j,i<j→j<ops.size→((befL ops.toList []).getD j 0).testBit i=true∨(j<m∧touchApart (ts.getD i ⟨[],[],[],[]⟩) (ts.getD j ⟨[],[],[],[]⟩)=true)
theorem drawF_of {feet:List Foot} {m:Nat} (h:drawOk m ops feet=true):DrawF ops m ((ops.toList.zip feet).map fun x=>touchOf x.1 x.2):=by
 unfold drawOk at h
 simp only [List.all_eq_true,List.mem_range,Bool.and_eq_true,Bool.or_eq_true] at h
 refine ⟨fun j i b hj=>?_,fun j o ho e he hb=>?_,fun i j hij hj=>((h j hj).2 i hij).imp id fun ⟨h1,h2⟩=>⟨Nat.le_of_ble_eq_true h1,h2⟩⟩
 ·have hlt:j<ops.size:=by
   unfold guardAt at hj
   cases ho:ops[j]? with
   | none=>rw [ho] at hj;cases hj
   | some _=>exact (Array.getElem?_eq_some_iff.1 ho).1
  have:=(h j hlt).1.1
  rw [hj] at this
  exact this
 ·have:=(h j (Array.getElem?_eq_some_iff.1 ho).1).1.2
  rw [ho] at this
  simp only [List.all_eq_true,Bool.or_eq_true,Bool.not_eq_true'] at this
  rcases this e (Array.mem_toList_iff.2 he) with h1 | h1
  ·rw [hb] at h1;cases h1
  ·exact Nat.le_of_ble_eq_true h1
theorem filter_lt {α:Type} {p q:α→Bool}:∀ {l:List α},(∀ x,q x=true→p x=true)→(∃ x∈l,p x=true∧q x=false)→(l.filter q).length<(l.filter p).length
 | [],_,⟨x,hx,_⟩=>by cases hx
 | a::l,h,⟨x,hx,h1,h2⟩=>by
  have hle:∀ l:List α,(l.filter q).length≤(l.filter p).length:=by
   intro l
   induction l with
   | nil=>simp
   | cons b l ih =>
    simp only [List.filter_cons]
    by_cases hq:q b=true
    ·rw [if_pos hq,if_pos (h b hq)];simp;exact ih
    ·rw [if_neg hq]
     split
     ·simp;omega
     ·exact ih
  rcases List.mem_cons.1 hx with rfl | hx
  ·simp only [List.filter_cons,h1,h2,if_true]
   have:=hle l
   simp
   omega
  ·have ih:=filter_lt (l:=l) h ⟨x,hx,h1,h2⟩
   simp only [List.filter_cons]
   by_cases hq:q a=true
   ·rw [if_pos hq,if_pos (h a hq)];simp;exact ih
   ·rw [if_neg hq]
    split
    ·simp;omega
    ·exact ih
variable {K:Ctx} {r:Option Nat} {n:Nat} {Q:Exit→Act→World→Prop}
theorem gCond_congr {s s':ASt}:∀ {g:List (Nat × Bool)},(∀ x∈g,s'.env x.1=s.env x.1)→gCond s' g=gCond s g
 | [],_=>rfl
 | (t,b)::g,h=>by
  simp only [gCond,gCond_congr (g:=g) fun x hx=>h x (List.mem_cons_of_mem _ hx)]
  rw [h (t,b) List.mem_cons_self]
theorem any_sound (hcx:CxOk K.P cx) (hnt:cx.nt=K.nt) (hfx:FixO K ops) (hgo:guardsOk ops=true) {s₀:ASt} {m:Nat} (hms:m≤ops.size) {ds:List Dat} {fs:List Foot} (hds:ds.map (·.o)=ops.toList.take m) (hran:Ran cx ops ds fs s₀)
  (hdf:DrawF ops m ((ops.toList.zip fs).map fun x=>touchOf x.1 x.2))
  (hQ:∀ fuel (listed:Array Bool) a' w' β',listed.size=ops.size→((List.range ops.size).filter fun j=>!listed.getD j false).length≤fuel→(∀ j,listed.getD j false=true↔j<m)→RelB K (st (fun _=>true) 0 ds s₀) a' w' β'→GInv ops (fun j=>j<m) (st (fun _=>true) 0 ds s₀)→wpAnyIn (FF K.P r) n K.P .any ops Q fuel listed a' w') :
  ∀ (fuel:Nat) (listed:Array Bool) (a:Act) (w:World) (β:Nat→Loc),listed.size=ops.size→((List.range ops.size).filter fun j=>!listed.getD j false).length≤fuel →
   (∀ j,listed.getD j false=true→j<m)→(∀ j,listed.getD j false=true→Cl ops (fun k=>listed.getD k false=true) j)→RelB K (st (fun j=>listed.getD j false) 0 ds s₀) a w β→GInv ops (fun j=>listed.getD j false=true) (st (fun j=>listed.getD j false) 0 ds s₀) →
   wpAnyIn (FF K.P r) n K.P .any ops Q fuel listed a w:=by
 have hlen:ds.length=m:=by rw [←List.length_map (f:=(·.o)),hds,List.length_take,Array.length_toList];omega
 have hat:∀ (i:Nat) (d:Dat),ds[i]?=some d→ops[i]?=some d.o:=by
  intro i d hd
  have hi:i<m:=by have:=(List.getElem?_eq_some_iff.1 hd).1;omega
  have:(ds.map (·.o))[i]?=some d.o:=by rw [List.getElem?_map,hd];rfl
  rw [hds,List.getElem?_take,if_pos hi] at this
  simpa using this
 have full:∀ (fuel:Nat) (listed:Array Bool) (a:Act) (w:World) (β:Nat→Loc),listed.size=ops.size→((List.range ops.size).filter fun j=>!listed.getD j false).length≤fuel→(∀ j,listed.getD j false=true→j<m)→(∀ j,j<m→listed.getD j false=true) →
   RelB K (st (fun j=>listed.getD j false) 0 ds s₀) a w β→GInv ops (fun j=>listed.getD j false=true) (st (fun j=>listed.getD j false) 0 ds s₀)→wpAnyIn (FF K.P r) n K.P .any ops Q fuel listed a w:=by
  intro fuel listed a w β hsz hfu hm1 hall h hG
  have e1:st (fun j=>listed.getD j false) 0 ds s₀=st (fun _=>true) 0 ds s₀:=st_congr fun j hj=>by rw [Nat.zero_add];exact hall j (by omega)
  rw [e1] at h hG
  refine hQ fuel listed a w β hsz hfu (fun j=>⟨hm1 j,hall j⟩) h fun t x hx=>?_
  obtain ⟨j,hj,rest⟩:=hG t x hx
  exact ⟨j,hm1 j hj,rest⟩
 have htouch:∀ (i:Nat) (d:Dat) (f:Foot),ds[i]?=some d→fs[i]?=some f→((ops.toList.zip fs).map fun x=>touchOf x.1 x.2).getD i ⟨[],[],[],[]⟩=touchOf d.o f:=by
  intro i d f hd hf
  have hz:(ops.toList.zip fs)[i]?=some (d.o,f):=List.getElem?_zip_eq_some.2 ⟨by simpa using hat i d hd,hf⟩
  rw [List.getD_eq_getElem?_getD,List.getElem?_map,hz]
  rfl
 intro fuel
 induction fuel with
 | zero =>
  intro listed a w β hsz hfu hm1 hcl h hG
  refine full 0 listed a w β hsz hfu hm1 (fun j hj=>?_) h hG
  have h0:=List.length_eq_zero_iff.1 (Nat.le_zero.1 hfu)
  by_cases hl:listed.getD j false=true
  ·exact hl
  ·have:j∈(List.range ops.size).filter fun j=>!listed.getD j false:=List.mem_filter.2 ⟨List.mem_range.2 (by omega),by simpa using hl⟩
   rw [h0] at this;cases this
 | succ fuel ih =>
  intro listed a w β hsz hfu hm1 hcl h hG
  by_cases hall:∀ j,j<m→listed.getD j false=true
  ·exact full _ listed a w β hsz hfu hm1 hall h hG
  refine ⟨fun hr=>?_,fun i hi=>?_⟩
  ·refine absurd ?_ hall
   intro j
   induction j using Nat.strongRecOn with
   | _ j ihj =>
    intro hj
    by_cases hl:listed.getD j false=true
    ·exact hl
    ·exfalso
     have hj':j<ops.size:=by omega
     have:j∈Region.ready .any ops listed:=by
      refine mem_ready.2 ⟨?_,ops[j],Array.getElem?_eq_getElem hj',fun e he hb=>?_⟩
      ·simp only [Array.getD_eq_getD_getElem?,Array.getElem?_eq_getElem (show j<listed.size by omega)] at hl ⊢
       simpa using hl
      ·have hlt:=hdf.back j _ (Array.getElem?_eq_getElem hj') e he hb
       exact ihj e.on hlt (by omega)
     rw [hr] at this;cases this
  ·obtain ⟨h0,o,ho,hpre⟩:=mem_ready.1 hi
   have hlt:=(Array.getElem?_eq_some_iff.1 ho).1
   have hni:listed.getD i false=false:=by
    simp only [Array.getD_eq_getD_getElem?,Array.getElem?_eq_getElem (show i<listed.size by omega)] at h0 ⊢
    simpa using h0
   have hcli:Cl ops (fun k=>listed.getD k false=true) i:=fun o' ho' e he hb=>by
    rw [ho] at ho';cases ho'
    exact hpre e he hb
   have hgood:=bef_good hcl (l:=ops.toList) (acc:=[]) (fun j=>by simp) (fun j _ i hi=>by simp at hi)
   have him:i<m:=by
    refine Classical.byContradiction fun hge=>hall fun j hj=>?_
    rcases hdf.apart j i (by omega) hlt with hb | ⟨hb,_⟩
    ·exact hgood i hcli j hb
    ·omega
   obtain ⟨d,hd⟩:∃ d,ds[i]?=some d:=⟨_,List.getElem?_eq_getElem (show i<ds.length by omega)⟩
   have hdo:o=d.o:=by have:=hat i d hd;rw [ho] at this;exact Option.some.inj this
   subst hdo
   obtain ⟨f,hf,c1,c2,c3,c4,c5,c6⟩:=ran_get hran hd
   have hwr:∀ (j:Nat) (d':Dat),ds[j]?=some d'→j≠i→(∃ f',fs[j]?=some f'∧touchApart (if j<i then touchOf d'.o f' else touchOf d.o f) (if j<i then touchOf d.o f else touchOf d'.o f')=true∧f'.wr=d'.e.wr.map (·.1))∨listed.getD j false=decide (j<i):=by
    intro j d' hj hne
    obtain ⟨f',hf',_,_,_,_,k5,_⟩:=ran_get hran hj
    have hjm:j<m:=by have:=(List.getElem?_eq_some_iff.1 hj).1;omega
    have hjl:j<ops.size:=by omega
    by_cases hji:j<i
    ·rcases hdf.apart j i hji hlt with hb | ⟨_,hb⟩
     ·right
      rw [hgood i hcli j hb,decide_eq_true hji]
     ·left
      rw [htouch j d' f' hj hf',htouch i d f hd hf] at hb
      exact ⟨f',hf',by rw [if_pos hji,if_pos hji];exact hb,by rw [k5]⟩
    ·rcases hdf.apart i j (by omega) hjl with hb | ⟨_,hb⟩
     ·right
      rw [decide_eq_false hji]
      cases hl:listed.getD j false with
      | false=>rfl
      | true =>
       have:=hgood j (hcl j hl) i hb
       rw [hni] at this;cases this
     ·left
      rw [htouch i d f hd hf,htouch j d' f' hj hf'] at hb
      exact ⟨f',hf',by rw [if_neg hji,if_neg hji];exact hb,by rw [k5]⟩
   have hap:∀ {x y:Touch},touchApart x y=true→disj x.dst y.uses=true∧disj y.dst x.uses=true∧disj x.dst y.dst=true∧disj x.wr y.rd=true∧disj x.wr y.wr=true∧disj y.wr x.rd=true:=by
    intro x y hxy
    simpa only [touchApart,Bool.and_eq_true] using hxy
   have henv:∀ t,(t∈d.g.map (·.1)∨t∈tmpsOf d.o.op.operands.toList)→(st (fun j=>listed.getD j false) 0 ds s₀).env t=(st (fun j=>decide (j<i)) 0 ds s₀).env t:=by
    intro t ht
    refine st_env (fun j d' hj hd'=>?_) rfl
    rw [Nat.zero_add]
    by_cases hne:j=i
    ·subst hne;rw [hni];simp
    ·rcases hwr j d' hj hne with ⟨f',_,hap',_⟩ | hq
     ·exfalso
      have hu:t∈(touchOf d.o f).uses:=by
       rw [c5];simp only [touchOf,List.mem_append];exact ht
      have hdd:t∈(touchOf d'.o f').dst:=by simp [touchOf,hd']
      by_cases hji:j<i
      ·rw [if_pos hji,if_pos hji] at hap';exact disj_not (hap hap').1 hdd hu
      ·rw [if_neg hji,if_neg hji] at hap';exact disj_not (hap hap').2.1 hdd hu
     ·exact hq
   have hobs:Same (st (fun j=>decide (j<i)) 0 ds s₀) (st (fun j=>listed.getD j false) 0 ds s₀) (opIds cx (st (fun j=>decide (j<i)) 0 ds s₀) d.g d.o):=by
    intro x hx
    refine st_obs (fun j d' hj hd'=>?_) rfl
    rw [Nat.zero_add]
    by_cases hne:j=i
    ·subst hne;rw [hni];simp
    ·rcases hwr j d' hj hne with ⟨f',_,hap',hw'⟩ | hq
     ·exfalso
      have hu:x∈(touchOf d.o f).rd:=by rw [c5];exact hx
      have hdd:x∈(touchOf d'.o f').wr:=by simp only [touchOf,hw'];exact hd'
      by_cases hji:j<i
      ·rw [if_pos hji,if_pos hji] at hap';exact disj_not (hap hap').2.2.2.1 hdd hu
      ·rw [if_neg hji,if_neg hji] at hap';exact disj_not (hap hap').2.2.2.2.2 hdd hu
     ·exact hq
   have hch:chain (st (fun j=>listed.getD j false) 0 ds s₀) ops d.o=some d.g:=by
    rw [←c1]
    unfold chain
    cases hgd:d.o.guard with
    | none=>rfl
    | some jb =>
     obtain ⟨j,b⟩:=jb
     simp only
     unfold chain at c1
     rw [hgd] at c1
     simp only at c1
     split at c1
     ·rename_i t ht
      have htm:t∈d.g.map (·.1):=by
       split at c1
       ·simp only [Option.some.injEq] at c1
        rw [←c1];simp
       ·cases c1
      rw [henv t (.inl htm)]
     ·cases c1
   have hef:eff cx (st (fun j=>listed.getD j false) 0 ds s₀) d.g d.o=some d.e:=by
    rw [eff_congr (fun t ht=>henv t (.inr ht)) hobs];exact c2
   have hgc:gCond (st (fun j=>listed.getD j false) 0 ds s₀) d.g=gCond (st (fun j=>decide (j<i)) 0 ds s₀) d.g :=
    gCond_congr fun x hx=>henv x.1 (.inl (List.mem_map_of_mem hx))
   have hDj:∀ j b,guardAt ops i=some (j,b)→listed.getD j false=true:=fun j b hj=>hgood i hcli j (hdf.guard i j b hj)
   have hnew:∀ j,(listed.setIfInBounds i true).getD j false=true↔(listed.getD j false=true∨j=i):=by
    intro j
    by_cases hji:j=i
    ·subst hji
     simp [Array.getD_eq_getD_getElem?,hsz,hlt]
    ·rw [getD_set_ne false (Ne.symm hji)]
     simp [hji]
   have hnewb:∀ j,j≠i→(listed.setIfInBounds i true).getD j false=listed.getD j false:=fun j hj=>getD_set_ne false (Ne.symm hj)
   have hst:st (fun j=>(listed.setIfInBounds i true).getD j false) 0 ds s₀=(st (fun j=>listed.getD j false) 0 ds s₀).app d.o.dst d.g d.e:=by
    have hlater:∀ (j:Nat) (d':Dat),i<j→ds[j]?=some d'→((∃ t,d.o.dst=some t∧d'.o.dst=some t)∨∃ x,x∈d.e.wr.map (·.1)∧x∈d'.e.wr.map (·.1))→listed.getD j false=false:=by
     intro j d' hij hj hc
     rcases hwr j d' hj (by omega) with ⟨f',_,hap',hw'⟩ | hq
     ·exfalso
      rw [if_neg (by omega),if_neg (by omega)] at hap'
      obtain ⟨_,_,p1,_,p2,_⟩:=hap hap'
      rcases hc with ⟨t,h1,h2⟩ | ⟨x,h1,h2⟩
      ·exact disj_not (x:=t) p1 (by simp [touchOf,h1]) (by simp [touchOf,h2])
      ·exact disj_not (x:=x) p2 (by rw [c5];exact h1) (by simp only [touchOf,hw'];exact h2)
     ·rw [hq];simp;omega
    have he:∀ s s':ASt,s.env=s'.env→s.obs=s'.obs→s=s':=by
     intro s s' h1 h2;cases s;cases s';cases h1;cases h2;rfl
    refine he _ _ (funext fun t=>?_) (funext fun x=>?_)
    ·rw [app_env]
     by_cases hdt:d.o.dst=some t
     ·rw [if_pos hdt]
      refine st_env_at (i:=i) hd (by rw [Nat.zero_add];exact (hnew i).2 (.inr rfl)) hdt fun j d' hij hj hd'=>?_
      rw [Nat.zero_add,hnewb j (by omega)]
      exact hlater j d' hij hj (.inl ⟨t,hdt,hd'⟩)
     ·rw [if_neg hdt]
      refine st_env (fun j d' hj hd'=>?_) rfl
      rw [Nat.zero_add]
      refine hnewb j fun e=>?_
      subst e
      rw [hd] at hj;cases hj
      exact hdt hd'
    ·by_cases hdx:x∈d.e.wr.map (·.1)
     ·refine st_obs_at (i:=i) _ hd (by rw [Nat.zero_add];exact (hnew i).2 (.inr rfl)) hdx fun j d' hij hj hd'=>?_
      rw [Nat.zero_add,hnewb j (by omega)]
      exact hlater j d' hij hj (.inr ⟨x,hdx,hd'⟩)
     ·rw [app_obs,puts_out (by rw [keys_wr];exact hdx)]
      refine st_obs (fun j d' hj hd'=>?_) rfl
      rw [Nat.zero_add]
      refine hnewb j fun e=>?_
      subst e
      rw [hd] at hj;cases hj
      exact hdx hd'
   have hform:=(chain_fact h hch).2
   have hG':=gInv_app (e:=d.e) hgo hG ho (by simp [hni]) hDj hform
   unfold wpOpIn
   rw [ho]
   refine op_step hcx hnt hgo h hG ho (by simp [hni]) hDj hch hef c3 (fun x hx=>c4 x hx) (fun x hx=>hfx i _ x ho hx) (fun p hp hc=>c6 p hp fun c hcc=>hc c (by rw [hgc];exact hcc)) ?_
   intro a' w' β' hrel
   refine ih (listed.setIfInBounds i true) a' w' β' (by simpa using hsz) ?_ (fun j hj=>((hnew j).1 hj).elim (hm1 j) fun e=>e▸him) ?_ (by rw [hst];exact hrel) ?_
   ·have:=filter_lt (p:=fun j=>!listed.getD j false) (q:=fun j=>!(listed.setIfInBounds i true).getD j false) (l:=List.range ops.size) (by
     intro j hj
     simp only [Bool.not_eq_true'] at hj ⊢
     by_cases hji:j=i
     ·rw [hji];exact hni
     ·rw [←hnewb j hji];exact hj) ⟨i,List.mem_range.2 hlt,by rw [hni];rfl,by rw [(hnew i).2 (.inr rfl)];rfl⟩
    omega
   ·intro j hj o' ho' e he hb
    rw [hnew]
    rcases (hnew j).1 hj with h1 | rfl
    ·exact .inl (hcl j h1 o' ho' e he hb)
    ·exact .inl (hcli o' ho' e he hb)
   ·rw [hst]
    intro t x hx
    obtain ⟨j,hj,rest⟩:=hG' t x hx
    exact ⟨j,(hnew j).2 hj,rest⟩
theorem any_of_list {P:Program} {F:Fence} {m:Nat} {ts:List Touch} (hdf:DrawF ops m ts):∀ (fuel k:Nat) (listed:Array Bool) (a:Act) (w:World),m≤k→k≤ops.size→listed.size=ops.size→ops.size≤k+fuel→(∀ j,listed.getD j false=true↔j<k) →
  wpListIn F n P ops Q (ops.toList.drop k) a w→wpAnyIn F n P .any ops Q fuel listed a w:=by
 intro fuel
 have hrd:∀ (k:Nat) (listed:Array Bool),m≤k→k≤ops.size→listed.size=ops.size→(∀ j,listed.getD j false=true↔j<k)→∀ i,i∈Region.ready .any ops listed↔(i=k∧k<ops.size):=by
  intro k listed hmk hks hsz hl i
  have hcl:∀ j,listed.getD j false=true→Cl ops (fun k=>listed.getD k false=true) j:=by
   intro j hj o ho e he hb
   have:=hdf.back j o ho e he hb
   have hj:=(hl j).1 hj
   exact (hl _).2 (by omega)
  have hgood:=bef_good hcl (l:=ops.toList) (acc:=[]) (fun j=>by simp) (fun j _ i hi=>by simp at hi)
  constructor
  ·intro hi
   obtain ⟨h0,o,ho,hpre⟩:=mem_ready.1 hi
   have hlt:=(Array.getElem?_eq_some_iff.1 ho).1
   have hni:¬ i<k:=by
    intro hik
    have:=(hl i).2 hik
    simp only [Array.getD_eq_getD_getElem?,Array.getElem?_eq_getElem (show i<listed.size by omega)] at h0 this
    simp at h0 this
    rw [h0] at this;cases this
   refine ⟨?_,by omega⟩
   refine Classical.byContradiction fun hne=>?_
   rcases hdf.apart k i (by omega) hlt with hb | ⟨hb,_⟩
   ·have:=(hl k).1 (hgood i (fun o' ho' e he hb=>by
     rw [ho] at ho';cases ho'
     exact hpre e he hb) k hb)
    omega
   ·omega
  ·rintro ⟨rfl,hlt⟩
   refine mem_ready.2 ⟨?_,ops[i],Array.getElem?_eq_getElem hlt,fun e he hb=>(hl _).2 (hdf.back i _ (Array.getElem?_eq_getElem hlt) e he hb)⟩
   have hni:¬ listed.getD i false=true:=fun h=>by have:=(hl i).1 h;omega
   simp only [Array.getD_eq_getD_getElem?,Array.getElem?_eq_getElem (show i<listed.size by omega)] at hni ⊢
   simpa using hni
 have hend:∀ (k:Nat) (listed:Array Bool),m≤k→k≤ops.size→listed.size=ops.size→(∀ j,listed.getD j false=true↔j<k)→Region.ready .any ops listed=[]→k=ops.size:=by
  intro k listed hmk hks hsz hl hr
  refine Classical.byContradiction fun hne=>?_
  have:=(hrd k listed hmk hks hsz hl k).2 ⟨rfl,by omega⟩
  rw [hr] at this;cases this
 induction fuel with
 | zero =>
  intro k listed a w hmk hks hsz hfu hl h
  have hk:k=ops.size:=by omega
  have h:wpListIn F n P ops Q (ops.toList.drop k) a w:=h
  rw [List.drop_eq_nil_of_le (by rw [Array.length_toList];omega)] at h
  refine ⟨List.eq_nil_iff_forall_not_mem.2 fun i hi=>?_,h⟩
  have:=(hrd k listed hmk hks hsz hl i).1 hi
  omega
 | succ fuel ih =>
  intro k listed a w hmk hks hsz hfu hl h
  refine ⟨fun hr=>?_,fun i hi=>?_⟩
  ·have hk:=hend k listed hmk hks hsz hl hr
   rw [List.drop_eq_nil_of_le (by rw [Array.length_toList];omega)] at h
   exact h
  ·obtain ⟨rfl,hlt⟩:=(hrd k listed hmk hks hsz hl i).1 hi
   have hlt':i<ops.toList.length:=by rw [Array.length_toList];exact hlt
   rw [List.drop_eq_getElem_cons hlt'] at h
   have hnext:∀ a w,wpListIn F n P ops Q (ops.toList.drop (i+1)) a w→wpAnyIn F n P .any ops Q fuel (listed.setIfInBounds i true) a w:=by
    intro a w h
    refine ih (i+1) _ a w (by omega) (by omega) (by simpa using hsz) (by omega) (fun j=>?_) h
    by_cases hji:j=i
    ·subst hji
     simp [Array.getD_eq_getD_getElem?,hsz,hlt]
    ·rw [getD_set_ne false (Ne.symm hji),hl j]
     omega
   have hoi:ops[i]?=some (ops.toList[i]):=by simp [hlt]
   unfold wpOpIn
   rw [hoi]
   simp only [wpListIn] at h
   show if Region.wanted _ (yielded ops a.tmps) then _ else _
   split
   ·rename_i hw
    rw [if_pos hw] at h
    exact Oper.wpIn_mono hnext h
   ·rename_i hw
    rw [if_neg hw] at h
    exact ⟨h.1,hnext _ _ h.2⟩
end
end Go.Sx
/-
 The symbolic layer,part 21a: calls that are carried out in place: the caller's side.
-/
namespace Go.Sx
theorem Inl.toF_toC (i:Inl) (c:Nat):i.toF (i.toC c)=c:=by
 simp only [Inl.toF,Inl.toC,Bool.cond_eq_ite,Nat.ble_eq]
 split<;>(try split)<;>(try split)<;>(try split)<;>omega
theorem Inl.toC_toF (i:Inl) (x:Nat):i.toC (i.toF x)=x:=by
 simp only [Inl.toF,Inl.toC,Bool.cond_eq_ite,Nat.ble_eq]
 split<;>(try split)<;>(try split)<;>(try split)<;>omega
theorem inOb_ren (r:Nat→Nat) (ob:Ob) (p:List Stp):inOb (renOb r ob) p=inOb ob p:=by
 cases ob<;>first | rfl | (cases p<;>rfl)
theorem obPos_ren (r:Nat→Nat) (ob:Ob) (p:List Stp):obPos (renOb r ob) p=obPos ob p:=by
 cases ob<;>first | rfl | (cases p<;>rfl)
theorem isRow_ren (r:Nat→Nat) (ob:Ob):isRow (renOb r ob)=isRow ob:=by cases ob<;>rfl
theorem isMm_ren (r:Nat→Nat) (ob:Ob):isMm (renOb r ob)=isMm ob:=by cases ob<;>rfl
theorem obFz_ren (r:Nat→Nat) (ob:Ob):obFz (renOb r ob)=obFz ob:=by cases ob<;>rfl
theorem isRr_ren (r:Nat→Nat) (ob:Ob):isRr (renOb r ob)=isRr ob:=by cases ob<;>rfl
theorem renO_some {r:Nat→Nat} {x:Option (Option Ob)} {ob:Ob} (h:renO r x=some (some ob)):∃ ob',x=some (some ob')∧ob=renOb r ob':=by
 cases x with
 | none=>cases h
 | some y=>cases y with
  | none=>cases h
  | some z=>exact ⟨z,rfl,(Option.some.inj (Option.some.inj h)).symm⟩
def Ren (r:Nat→Nat) (s₁:ASt) (β₁:Nat→Loc) (s₂:ASt) (β₂:Nat→Loc):Prop:=∀ c,s₁.obs c≠none→s₂.obs (r c)=some none∨(s₂.obs (r c)=renO r (s₁.obs c)∧β₂ (r c)=β₁ c)
section
variable {P:Program} {r:Nat→Nat} {s₁ s₂:ASt} {β₁ β₂:Nat→Loc} {w:World} {M M':Nat→Prop}
theorem SVRep.ren (hR:Ren r s₁ β₁ s₂ β₂) (ht:Tr M w M' w) {v:SV} {u:Value} (h:SVRep P s₁ β₁ w M v u):SVRep P s₂ β₂ w M' (renSV r v) u:=by
 cases v with
 | d t x=>exact VRep.tr h ht
 | nl e t=>exact h
 | ptr o p =>
  simp only [SVRep,renSV] at h ⊢
  cases ho:s₁.obs o with
  | none=>simp only [ho] at h
  | some y =>
   rcases hR o (by rw [ho];exact fun e=>by cases e) with h1 | ⟨h1,h2⟩
   ·rw [h1];trivial
   ·rw [h1,ho]
    cases y with
    | none=>trivial
    | some ob =>
     simp only [ho] at h
     simp only [renO,inOb_ren,obPos_ren,h2]
     exact h
 | os o =>
  simp only [SVRep,renSV] at h ⊢
  cases ho:s₁.obs o with
  | none=>simp only [ho] at h
  | some y =>
   rcases hR o (by rw [ho];exact fun e=>by cases e) with h1 | ⟨h1,h2⟩
   ·rw [h1];trivial
   ·rw [h1,ho]
    cases y with
    | none=>trivial
    | some ob =>
     simp only [ho] at h
     simp only [renO,isRow_ren,h2]
     exact h
 | mp o =>
  simp only [SVRep,renSV] at h ⊢
  cases ho:s₁.obs o with
  | none=>simp only [ho] at h
  | some y =>
   rcases hR o (by rw [ho];exact fun e=>by cases e) with h1 | ⟨h1,h2⟩
   ·rw [h1];trivial
   ·rw [h1,ho]
    cases y with
    | none=>trivial
    | some ob =>
     simp only [ho] at h
     simp only [renO,isMm_ren,h2]
     exact h
theorem all2u_map_l {α β γ:Type} {f:α→γ} {R:α→β→Prop} {S:γ→β→Prop} (h:∀ a b,R a b→S (f a) b):∀ {l:List α} {l':List β},All2 R l l'→All2 S (l.map f) l'
 | [],[],_=>trivial
 | _::_,_::_,hh=>⟨h _ _ hh.1,all2u_map_l h hh.2⟩
 | [],_::_,hh=>hh.elim
 | _::_,[],hh=>hh.elim
theorem HR.ren (hR:Ren r s₁ β₁ s₂ β₂) (ht:Tr M w M' w) {t:Ty} {n:Nat} {hs:List (List Stp × SV)} {us:List (Nat × Value)} (h:All2 (HR P s₁ β₁ w M t n) hs us):All2 (HR P s₂ β₂ w M' t n) (renHs r hs) us :=
 all2u_map_l (fun _ _ ⟨h1,h2,h3,h4⟩=>⟨h1,h2,h3,h4.ren hR ht⟩) h
theorem AVRep.ren (hR:Ren r s₁ β₁ s₂ β₂) (ht:Tr M w M' w) {v:AV} {u:Value} (h:AVRep P s₁ β₁ w M v u):AVRep P s₂ β₂ w M' (renAV r v) u:=by
 cases v with
 | un=>trivial
 | yl _=>exact h
 | mv _ _ _=>obtain ⟨u,rfl,h⟩:=h;exact ⟨u,rfl,VRep.tr h ht⟩
 | bm _ _=>obtain ⟨u,rfl,h⟩:=h;exact ⟨u,rfl,h.ren hR ht⟩
 | ag t x hs=>obtain ⟨vs,us,h1,h2,h3⟩:=h;exact ⟨vs,us,h1,h2.tr ht,HR.ren hR ht h3⟩
 | ex _=>exact h
 | sn o n d t =>
  simp only [AVRep,renAV] at h ⊢
  cases ho:s₁.obs o with
  | none=>simp only [ho] at h
  | some y =>
   rcases hR o (by rw [ho];exact fun e=>by cases e) with h1 | ⟨h1,h2⟩
   ·rw [h1];trivial
   ·rw [h1,ho]
    cases y with
    | none=>trivial
    | some ob =>
     simp only [ho] at h
     simp only [renO,isRow_ren,h2]
     exact h
 | rqe o i t =>
  simp only [AVRep,renAV] at h ⊢
  cases ho:s₁.obs o with
  | none=>simp only [ho] at h
  | some y =>
   rcases hR o (by rw [ho];exact fun e=>by cases e) with h1 | ⟨h1,h2⟩
   ·rw [h1];trivial
   ·rw [h1,ho]
    cases y with
    | none=>trivial
    | some ob =>
     simp only [ho] at h
     simp only [renO,isRow_ren,h2]
     exact h
 | ri o g i =>
  simp only [AVRep,renAV] at h ⊢
  cases ho:s₁.obs o with
  | none=>simp only [ho] at h
  | some y =>
   rcases hR o (by rw [ho];exact fun e=>by cases e) with h1 | ⟨h1,h2⟩
   ·rw [h1];trivial
   ·rw [h1,ho]
    cases y with
    | none=>trivial
    | some ob =>
     simp only [ho] at h
     simp only [renO,obPos_ren,h2]
     exact h
 | rie o g i j t =>
  simp only [AVRep,renAV] at h ⊢
  cases ho:s₁.obs o with
  | none=>simp only [ho] at h
  | some y =>
   rcases hR o (by rw [ho];exact fun e=>by cases e) with h1 | ⟨h1,h2⟩
   ·rw [h1];trivial
   ·rw [h1,ho]
    cases y with
    | none=>trivial
    | some ob =>
     simp only [ho] at h
     simp only [renO,obPos_ren,h2]
     exact h
 | s v=>exact SVRep.ren hR ht h
 | clo f c=>obtain ⟨vs,rfl,h⟩:=h;exact ⟨vs,rfl,all2u_map_l (fun _ _ h=>h.ren hR ht) h⟩
 | tup l=>obtain ⟨vs,rfl,h⟩:=h;exact ⟨vs,rfl,all2u_map_l (fun _ _ h=>h.ren hR ht) h⟩
theorem ObRep.ren (hR:Ren r s₁ β₁ s₂ β₂) (ht:Tr M w M' w) {L:Loc} {ob:Ob} (h:ObRep P s₁ β₁ w M L ob):ObRep P s₂ β₂ w M' L (renOb r ob):=by
 cases ob with
 | bx f t x=>obtain ⟨b,vs,e,h1,h2,h3⟩:=h;exact ⟨b,vs,e,h1,h2,h3.tr ht⟩
 | row f e t l=>obtain ⟨h1,h2,vss,h3,h4⟩:=h;exact ⟨h1,h2,vss,h3.mono fun _ _ h=>h.tr ht,h4⟩
 | bv v=>obtain ⟨b,u,e,h1,h2,h3⟩:=h;exact ⟨b,u,e,h1,h2,h3.ren hR ht⟩
 | mm tk tv inv =>
  obtain ⟨b,es,ck,h1,h2,h3⟩:=h
  refine ⟨b,es,ck,h1,h2,fun e he=>?_⟩
  obtain ⟨x,y,g1,g2,g3⟩:=h3 e he
  exact ⟨x,y,g1.tr ht,g2.tr ht,g3⟩
 | me f tk tv m=>obtain ⟨b,es,ck,h1,h2,hsm,h3⟩:=h;exact ⟨b,es,ck,h1,h2,hsm,h3.mono (fun _ _ h=>h.tr ht) fun _ _ h=>h.tr ht⟩
 | gh t x=>exact h
 | it tk tv m l=>obtain ⟨b,mp,since,seen,h1,h2,h3⟩:=h;exact ⟨b,mp,since,seen,h1,h2,h3.tr ht⟩
 | rq f e t l=>obtain ⟨h1,h2,k,vss,h3,h4⟩:=h;exact ⟨h1,h2,k,vss,h3.mono fun _ _ h=>h.tr ht,h4⟩
 | rr _ _ _ _ _ _=>exact h
 | bp t x hs=>obtain ⟨b,vs,e,us,h1,h2,h3,h4⟩:=h;exact ⟨b,vs,e,us,h1,h2,h3.tr ht,HR.ren hR ht h4⟩
end
section
variable {K:Ctx} {s s':ASt} {a:Act} {w w':World} {β β':Nat→Loc} {cx:Cx} {o:Oper}
variable {r:Option Nat} {n:Nat} {next:Act→World→Prop} {Q:Exit→Act→World→Prop}
theorem RelB.step0 (h:RelB K s a w β) (hJ:∀ g G M w,K.J g G M w) (hx:Ext (Own s β) w w') (hdis:∀ o ob b,s'.obs o=some (some ob)→(β' o).has b→¬ K.Mg b)
  (hob:∀ o ob,s'.obs o=some (some ob)→ObRep K.P s' β' w' (Mset K.Mg s' β') (β' o) ob)
  (hinj:∀ o o' ob ob' b,s'.obs o=some (some ob)→s'.obs o'=some (some ob')→(β' o).has b→(β' o').has b→o=o')
  (hrng:∀ o ob b,s'.obs o=some (some ob)→obFz ob=false→(β' o).has b→Own s β b∨w.heap.size≤b)
  (henv:∀ t,EntRep K.P s' β' a w' (Mset K.Mg s' β') (s'.env t) (a.tmps.getD t undef))
  (hpos:∀ o p,K.pos o=some p→s'.obs o=some none∨∃ ob,s'.obs o=some (some ob)∧p ob (β' o)) (hsb:∀ o ob,s'.obs o=some (some ob)→isRr ob=false→(β' o).sub=[]):RelB K s' a w' β':=by
 have hpin:∀ (b:Nat) (o:Obj),w.heap[b]?=some o→mach o=true→w'.heap[b]?=some o:=by
  intro b o hbo hn
  refine (hx.2 b (Array.getElem?_eq_some_iff.1 hbo).1 ?_).trans hbo
  rintro ⟨o',ob,h1,_,h3⟩
  rcases (h.ob o' ob h1).block (h.sb o' ob h1) h3 with ⟨c,e,hc⟩ | ⟨c,e,hc⟩ | ⟨m,c,e,z,hc⟩
  ·rw [hbo] at hc;cases hc;cases hn
  ·rw [hbo] at hc;cases hc;cases hn
  ·rw [hbo] at hc;cases hc;cases hn
 refine ⟨?_,fun b hb=>Nat.lt_of_lt_of_le (h.mg b hb) hx.1,hdis,hob,hinj,?_,henv,h.size,?_,h.dnd,h.nod,?_,hJ _ _ _ _,h.fix,hpos,hsb⟩
 ·refine ⟨Nat.le_trans h.frame.1 hx.1,fun b hb hn=>(hx.2 b (Nat.lt_of_lt_of_le hb h.frame.1) ?_).trans (h.frame.2 b hb hn),hx.io.1.trans h.frame.io.1,hx.io.2.trans h.frame.io.2⟩
  rintro ⟨o',ob,h1,h2,h3⟩
  rcases h.rng o' ob b h1 h2 h3 with h4 | h4
  ·omega
  ·exact hn (K.mlf b h4)
 ·intro o ob b ho hf hb
  rcases hrng o ob b ho hf hb with ⟨o',ob',h1,h2,h3⟩ | h1
  ·exact h.rng o' ob' b h1 h2 h3
  ·exact .inl (Nat.le_trans h.frame.1 h1)
 ·intro d hd
  obtain ⟨D,rfl,hD,hm⟩:=h.defs d hd
  exact ⟨D,rfl,hpin D _ hD rfl,hm⟩
 ·intro x hx'
  obtain ⟨h1,h2⟩:=h.pins x hx'
  exact ⟨hpin x.1 x.2 h1 h2,h2⟩
def KeptW (s:ASt) (β:Nat→Loc) (s':ASt) (β':Nat→Loc):Prop :=
 ∀ o,(s.obs o=some none→s'.obs o=some none)∧∀ ob,s.obs o=some (some ob)→s'.obs o=some none∨∃ ob',s'.obs o=some (some ob')∧β' o=β o∧LikeW ob ob'
theorem SVRep.keptW {P:Program} {M M':Nat→Prop} (hC:KeptW s β s' β') (ht:Tr M w M' w') {v:SV} {u:Value} (hv:noPtr s v=true) (h:SVRep P s β w M v u):SVRep P s' β' w' M' v u:=by
 cases v with
 | d t x=>exact VRep.tr h ht
 | nl e t=>exact h
 | ptr o p =>
  simp only [SVRep] at h ⊢
  cases ho:s.obs o with
  | none=>simp only [ho] at h
  | some y =>
   cases y with
   | none=>rw [(hC o).1 ho];trivial
   | some ob =>
    simp only [ho] at h
    rcases (hC o).2 ob ho with h1 | ⟨ob',h1,h2,h3⟩
    ·rw [h1];trivial
    ·rw [h1]
     have hr:isRow ob=false:=by
      simp only [noPtr,ho] at hv
      cases ob<;>first | rfl | cases hv
     obtain ⟨h4,h5⟩:=h3.1 hr
     obtain ⟨hi,b,off,hb,hp,hu⟩:=h
     exact ⟨h4 p hi,b,off,by rw [h2];exact hb,by rw [←h5];exact hp,hu⟩
 | os o =>
  simp only [SVRep] at h ⊢
  cases ho:s.obs o with
  | none=>simp only [ho] at h
  | some y =>
   cases y with
   | none=>rw [(hC o).1 ho];trivial
   | some ob =>
    simp only [ho] at h
    rcases (hC o).2 ob ho with h1 | ⟨ob',h1,h2,h3⟩
    ·rw [h1];trivial
    ·rw [h1];exact ⟨by rw [←h3.2.1];exact h.1,by rw [h2];exact h.2⟩
 | mp o =>
  simp only [SVRep] at h ⊢
  cases ho:s.obs o with
  | none=>simp only [ho] at h
  | some y =>
   cases y with
   | none=>rw [(hC o).1 ho];trivial
   | some ob =>
    simp only [ho] at h
    rcases (hC o).2 ob ho with h1 | ⟨ob',h1,h2,h3⟩
    ·rw [h1];trivial
    ·rw [h1];exact ⟨by rw [←h3.2.2.1];exact h.1,by rw [h2];exact h.2⟩
theorem AVRep.keptW {P:Program} {M M':Nat→Prop} (hC:KeptW s β s' β') (ht:Tr M w M' w') {v:AV} {u:Value} (hv:v.noPtr s=true) (h:AVRep P s β w M v u):AVRep P s' β' w' M' v u:=by
 have key:∀ {l:List SV} {us:List Value},l.all (noPtr s)=true→All2 (SVRep P s β w M) l us→All2 (SVRep P s' β' w' M') l us:=by
  intro l
  induction l with
  | nil=>intro us _ h;cases us with
   | nil=>trivial
   | cons _ _=>exact h.elim
  | cons v l ih =>
   intro us hl h
   cases us with
   | nil=>exact h.elim
   | cons u us =>
    simp only [List.all_cons,Bool.and_eq_true] at hl
    exact ⟨SVRep.keptW hC ht hl.1 h.1,ih hl.2 h.2⟩
 have key2:∀ {t:Ty} {n:Nat} {hs:List (List Stp × SV)} {us:List (Nat × Value)},(hs.all fun h=>noPtr s h.2)=true→All2 (HR P s β w M t n) hs us→All2 (HR P s' β' w' M' t n) hs us:=by
  intro t n hs
  induction hs with
  | nil=>intro us _ h;cases us with
   | nil=>trivial
   | cons _ _=>exact h.elim
  | cons v l ih =>
   intro us hl h
   cases us with
   | nil=>exact h.elim
   | cons u us =>
    simp only [List.all_cons,Bool.and_eq_true] at hl
    exact ⟨⟨h.1.1,h.1.2.1,h.1.2.2.1,SVRep.keptW hC ht hl.1 h.1.2.2.2⟩,ih hl.2 h.2⟩
 cases v with
 | un=>trivial
 | yl _=>exact h
 | mv _ _ _=>obtain ⟨u,rfl,h⟩:=h;exact ⟨u,rfl,VRep.tr h ht⟩
 | bm _ _=>obtain ⟨u,rfl,h⟩:=h;exact ⟨u,rfl,SVRep.keptW hC ht hv h⟩
 | ag t x hs=>obtain ⟨vs,us,h1,h2,h3⟩:=h;exact ⟨vs,us,h1,h2.tr ht,key2 hv h3⟩
 | ex _=>exact h
 | sn _ _ _ _=>cases hv
 | rqe _ _ _=>cases hv
 | ri o g i =>
  simp only [AV.noPtr,rr0] at hv
  split at hv
  ·rename_i ho
   simp only [AVRep,ho] at h ⊢
   obtain ⟨g',h1,h2,h3⟩:=h
   cases h1
   rcases (hC o).2 _ ho with k1 | ⟨ob',k1,k2,k3⟩
   ·rw [k1];trivial
   ·rw [k1,k2]
    exact ⟨0,k3.2.2.2 rfl rfl,Nat.le_refl _,fun _=>h3 rfl⟩
  ·cases hv
 | rie _ _ _ _ _=>cases hv
 | s v=>exact SVRep.keptW hC ht hv h
 | clo f c=>obtain ⟨vs,rfl,h⟩:=h;exact ⟨vs,rfl,key hv h⟩
 | tup l=>obtain ⟨vs,rfl,h⟩:=h;exact ⟨vs,rfl,key hv h⟩
theorem svsOf_rep {P:Program} {M:Nat→Prop}:∀ {l:List AV} {r:List SV} {us:List Value},svsOf l=some r→All2 (AVRep P s β w M) l us→All2 (SVRep P s β w M) r us
 | [],r,us,h,hu=>by
  simp only [svsOf,Option.some.injEq] at h;subst h
  cases us with
  | nil=>trivial
  | cons _ _=>exact hu.elim
 | x::l,r,us,h,hu=>by
  cases x with
  | s v =>
   simp only [svsOf,Option.map_eq_some_iff] at h
   obtain ⟨r',h1,rfl⟩:=h
   cases us with
   | nil=>exact hu.elim
   | cons u us=>exact ⟨hu.1,svsOf_rep h1 hu.2⟩
  | _=>simp [svsOf] at h
theorem all2u_append {α β:Type} {R:α→β→Prop} {l l':List α} {m m':List β} (h:All2 R l m) (h':All2 R l' m'):All2 R (l++l') (m++m'):=All2.append h h'
theorem inl_sound (hcx:CxOk K.P cx) (hJ:∀ g G M w,K.J g G M w) (h:RelB K s a w β) {gs:List (Nat × Bool)} (hg:Hold a gs) {i:Inl} {l:List AV} (hi:inlEff cx s gs o=some (i,l)) {Qr:AV→(Nat→Option (Option Ob))→Prop} (hq:i.rel s l Qr)
  (hn:∀ v obs' u w' β',Qr v obs'→RelB K (i.st s obs') a w' β'→AVRep K.P (i.st s obs') β' w' (Mset K.Mg (i.st s obs') β') v u→next (a.put o.dst u) w'):o.wpIn (FF K.P r) n K.P a w next Q:=by
 unfold inlEff at hi
 split at hi
 ·rename_i c d hop hd
  have hop:o.op=.call c:=hop
  have hnd:∀ c',o.op≠.defer c':=fun c' hh=>by rw [hop] at hh;cases hh
  split at hi
  ·rename_i i' f hin hc
   have hf:=ev_rep (cx:=cx) h hg 0 f
   have hxs:=args_rep (cx:=cx) h hg c.args.toList c.argTypes.toList
   have hmap:(c.args.toList.map a.eval).toArray=c.args.map a.eval:=by apply Array.ext';simp
   split at hi
   ·rename_i g₁ caps hev
    rw [hev] at hf
    obtain ⟨us,ef,hus⟩:=hf
    rw [Bool.cond_eq_ite] at hi
    split at hi
    ·rename_i hbq
     cases hi
     have hfe:=Nat.eq_of_beq_eq_true hbq
     obtain ⟨hent,hQ⟩:=hcx.inl d i hin
     rw [←hfe] at hent hQ
     obtain ⟨sF,hsF⟩:∃ sF:ASt,sF=bare (i.obsF s):=⟨_,rfl⟩
     obtain ⟨βF,hβF⟩:∃ βF:Nat→Loc,βF=fun c=>β (i.toC c):=⟨_,rfl⟩
     have obF:∀ c,sF.obs c=renO i.toF (s.obs (i.toC c)):=fun c=>by rw [hsF];rfl
     have hRF:Ren i.toF s β sF βF:=by
      intro x _
      right
      rw [obF,hβF]
      simp only [Inl.toC_toF,and_self]
     have ownF:Own sF βF=Own s β:=by
      funext b
      refine propext ⟨?_,?_⟩
      ·rintro ⟨c,ob,h1,h2,h3⟩
       rw [obF] at h1
       obtain ⟨ob',h4,rfl⟩:=renO_some h1
       rw [hβF] at h3
       exact ⟨i.toC c,ob',h4,by rw [←h2,obFz_ren],h3⟩
      ·rintro ⟨x,ob,h1,h2,h3⟩
       refine ⟨i.toF x,renOb i.toF ob,?_,by rw [obFz_ren];exact h2,?_⟩
       ·rw [obF,Inl.toC_toF,h1];rfl
       ·rw [hβF];simp only [Inl.toC_toF];exact h3
     have msF:Mset K.Mg sF βF=Mset K.Mg s β:=by funext b;simp only [Mset,ownF]
     have hLent:Lent K.P (bare (i.obsF s)) βF w K.Mg:=by
      rw [←hsF]
      refine ⟨?_,?_,?_,fun c ob hob hr=>?_⟩
      rotate_left 3
      ·rw [obF] at hob
       obtain ⟨ob',h4,rfl⟩:=renO_some hob
       rw [hβF]
       exact h.sb _ _ h4 (by rw [←isRr_ren];exact hr)
      ·intro c ob hob
       rw [obF] at hob
       obtain ⟨ob',h4,rfl⟩:=renO_some hob
       rw [msF]
       have:=(h.ob _ _ h4).ren hRF (.refl _ _)
       rw [hβF]
       rw [hβF] at this
       exact this
      ·intro c c' ob ob' b h1 h2 h3 h4
       rw [obF] at h1 h2
       obtain ⟨p,h5,_⟩:=renO_some h1
       obtain ⟨p',h6,_⟩:=renO_some h2
       rw [hβF] at h3 h4
       have:=h.inj _ _ _ _ b h5 h6 h3 h4
       have e:=congrArg i.toF this
       rwa [Inl.toF_toC,Inl.toF_toC] at e
      ·intro c ob b h1 h2
       rw [obF] at h1
       obtain ⟨p,h5,_⟩:=renO_some h1
       rw [hβF] at h2
       exact h.dis _ _ b h5 h2
     have hargs:All2 (AVRep K.P (bare (i.obsF s)) βF w (Mset K.Mg (bare (i.obsF s)) βF)) ((argAVs (ev cx s gs) c.args.toList c.argTypes.toList++caps.map AV.s).map (renAV i.toF)) (c.args.toList.map a.eval++us):=by
      rw [←hsF,msF]
      exact all2u_map_l (fun _ _ h=>AVRep.ren hRF (.refl _ _) h) (all2u_append hxs (svs_avs hus))
     have hcall:=hQ w K.Mg βF _ _ _ _ h.mg hLent hargs hq
     have e1:(c.args.toList.map a.eval++us).toArray=#[]++c.args.map a.eval++us.toArray:=by
      rw [←hmap];simp
     rw [e1] at hcall
     refine upon_enter hnd ((run_callVal hop hc ef).trans (hent _ _)) hcall ?_
     rintro e w' ⟨v,β',rv,obs',rfl,hQr,hext,hL',hC,hrg,hv⟩
     refine ⟨v,rfl,?_⟩
     rw [←hsF,ownF] at hext
     obtain ⟨s2,hs2⟩:∃ s2:ASt,s2=i.st s obs':=⟨_,rfl⟩
     obtain ⟨β2,hβ2⟩:∃ β2:Nat→Loc,β2=fun x=>β' (i.toF x):=⟨_,rfl⟩
     have ob2:∀ x,s2.obs x=i.obsC s obs' x:=fun x=>by rw [hs2];rfl
     have ob2u_live:∀ x ob,s2.obs x=some (some ob)→∃ ob',obs' (i.toF x)=some (some ob')∧ob=renOb i.toC ob':=by
      intro x ob hx
      rw [ob2] at hx
      unfold Inl.obsC at hx
      split at hx
      ·rw [Bool.cond_eq_ite] at hx
       split at hx
       ·exact renO_some hx
       ·cases hx
      ·exact renO_some hx
     have hR2:Ren i.toC (bare obs') β' s2 β2:=by
      intro c _
      rw [ob2,hβ2]
      simp only [Inl.toF_toC]
      unfold Inl.obsC
      simp only [Inl.toF_toC]
      split
      ·rw [Bool.cond_eq_ite]
       split
       ·exact .inr ⟨rfl,trivial⟩
       ·exact .inl rfl
      ·exact .inr ⟨rfl,trivial⟩
     have own2:∀ b,Own s2 β2 b→Own (bare obs') β' b:=by
      rintro b ⟨x,ob,h1,h2,h3⟩
      obtain ⟨ob',h4,rfl⟩:=ob2u_live x ob h1
      rw [hβ2] at h3
      exact ⟨i.toF x,ob',h4,by rw [←h2,obFz_ren],h3⟩
     have ht2:Tr (Mset K.Mg (bare obs') β') w' (Mset K.Mg s2 β2) w':=⟨.refl _ _,fun b _ hb=>hb.imp id (own2 b)⟩
     have hown:∀ b,b<w.heap.size→Own s2 β2 b→Own s β b:=by
      intro b hlt hb
      obtain ⟨o',ob',h1,h2,h3⟩:=own2 b hb
      rcases hrg o' ob' b h1 h2 h3 with h4 | h4
      ·rw [←hsF,ownF] at h4;exact h4
      ·omega
     have htr:Tr (Mset K.Mg s β) w (Mset K.Mg s2 β2) w' :=
      ⟨(hext.mono fun b _ hb=>.inr hb).loose,fun b hb hm=>hm.imp id (hown b hb)⟩
     have hK:KeptW s β s2 β2:=by
      intro x
      refine ⟨fun hx=>?_,fun ob hx=>?_⟩
      ·rw [ob2]
       unfold Inl.obsC
       rw [hx]
       simp only [Bool.cond_eq_ite]
       split
       ·rename_i hge
        have:=hC.dead (i.toF x) (Nat.le_of_ble_eq_true hge) (by show renO _ _=_;rw [Inl.toC_toF,hx];rfl)
        rw [this];rfl
       ·rfl
      ·rw [ob2]
       unfold Inl.obsC
       rw [hx]
       simp only [Bool.cond_eq_ite]
       split
       ·rename_i hge
        rcases hC.live (i.toF x) (Nat.le_of_ble_eq_true hge) (renOb i.toF ob) (by show renO _ _=_;rw [Inl.toC_toF,hx];rfl) with h1 | ⟨ob',h1,h2,h3⟩
        ·rw [h1];exact .inl rfl
        ·rw [h1]
         refine .inr ⟨renOb i.toC ob',rfl,?_,?_⟩
         ·rw [hβ2]
          simp only [h2,hβF,Inl.toC_toF]
         ·refine ⟨fun hr=>?_,by rw [isRow_ren,←h3.2.1,isRow_ren],by rw [isMm_ren,←h3.2.2.1,isMm_ren],fun hr h0=>by rw [obPos_ren];exact h3.2.2.2 (by rw [isRow_ren];exact hr) (by rw [obPos_ren];exact h0)⟩
          obtain ⟨g1,g2⟩:=h3.1 (by rw [isRow_ren];exact hr)
          refine ⟨fun p hp=>?_,fun p=>?_⟩
          ·rw [inOb_ren];exact g1 p (by rw [inOb_ren];exact hp)
          ·rw [obPos_ren,←g2,obPos_ren]
       ·exact .inl rfl
     have hrel:RelB K s2 a w' β2:=by
      refine h.step0 hJ hext ?_ ?_ ?_ ?_ ?_ ?_ fun x ob hx hr=>?_
      rotate_left 6
      ·obtain ⟨ob',h4,rfl⟩:=ob2u_live x ob hx
       rw [hβ2]
       exact hL'.sb _ _ h4 (by rw [←isRr_ren];exact hr)
      ·intro x ob b hx hb
       obtain ⟨ob',h4,rfl⟩:=ob2u_live x ob hx
       rw [hβ2] at hb
       exact hL'.dis _ _ b h4 hb
      ·intro x ob hx
       obtain ⟨ob',h4,rfl⟩:=ob2u_live x ob hx
       have:=(hL'.ob _ _ h4).ren hR2 ht2
       rw [hβ2] at this ⊢
       exact this
      ·intro x x' ob ob' b h1 h2 h3 h4
       obtain ⟨p,h5,_⟩:=ob2u_live x ob h1
       obtain ⟨p',h6,_⟩:=ob2u_live x' ob' h2
       rw [hβ2] at h3 h4
       have:=hL'.inj _ _ _ _ b h5 h6 h3 h4
       have e:=congrArg i.toC this
       rwa [Inl.toC_toF,Inl.toC_toF] at e
      ·intro x ob b h1 h2 h3
       obtain ⟨p,h5,rfl⟩:=ob2u_live x ob h1
       rw [hβ2] at h3
       have:=hrg _ p b h5 (by rw [←h2,obFz_ren]) h3
       rwa [←hsF,ownF] at this
      ·intro t
       have he:s2.env t=cond ((s.env t).v.noPtr s) (s.env t) ⟨[],.un⟩:=by rw [hs2];rfl
       rw [he]
       cases hw:(s.env t).v.noPtr s with
       | true=>exact ⟨fun hh=>AVRep.keptW hK htr hw ((h.env t).1 hh),(h.env t).2⟩
       | false=>exact ⟨fun _=>trivial,fun hh=>absurd (fun x hx=>by cases hx) hh⟩
      ·intro x p hp
       rcases h.pos x p hp with h1 | ⟨ob,h1,h2⟩
       ·exact .inl ((hK x).1 h1)
       ·rcases (hK x).2 ob h1 with h4 | ⟨ob',h4,h5,h6⟩
        ·exact .inl h4
        ·exact .inr ⟨ob',h4,by rw [h5];exact K.posk x p hp ob ob' _ h6 h2⟩
     subst hs2
     exact hn _ obs' v w' β2 hQr hrel (hv.ren hR2 ht2)
    ·cases hi
   ·cases hi
  ·cases hi
 ·cases hi
end
end Go.Sx
/-
 The symbolic layer,part 21b: operations of which what they yield is not known ahead.
-/
namespace Go.Sx
structure YFit (K:Ctx) (y:YInfo):Prop where
 gid:K.gid=y.gid
 nod:¬ K.nod
 mf:∀ g G M w,K.J g G M w→∀ b,b<K.w0.heap.size→M b→¬ K.Mx b→K.Mf b
 pins:∀ g G M w,K.J g G M w→∀ x∈K.pins,M x.1→K.Mx x.1
 lt:∀ g G M w,K.J g G M w→∀ b,M b→b<w.heap.size
 call:∀ p e r G M w us,y.all=p++e::r→K.J (some ⟨yTy y.elt,(p,false)⟩) G M w→(∃ cs,YR y.two y.elt us cs∧Rep K.P y.elt w (fun b=>M b∨G b) cs e)→(∀ b,G b→¬ M b∧(K.w0.heap.size≤b∨K.Ml b))→(∀ b,G b→b<w.heap.size) →
  YieldAt (FF K.P none) 0 K.P y.ly us.toArray w fun r w₂ =>
   (r=.returned (.bool true)∧∃ M₂,K.J (some ⟨yTy y.elt,(p++[e],false)⟩) G M₂ w₂∧Ext (fun b=>M b∧¬ K.Mx b) w w₂∧∀ b,b<w.heap.size→M₂ b→M b)∨(r=.returned (.bool false)∧∃ M₂,K.J (some ⟨yTy y.elt,(p++[e],true)⟩) G M₂ w₂∧Ext (fun b=>M b∧¬ K.Mx b) w w₂∧∀ b,b<w.heap.size→M₂ b→M b)∨∃ ch,r=.panicked ch∧K.jp ch w₂∧Ext (fun b=>M b∧¬ K.Mx b) w w₂
structure Fit (K:Ctx) (cx:Cx):Prop where
 nt:cx.nt=K.nt
 mixed:K.P.follows .mixedOrders=true
 yl:match cx.yl with
  | none=>(∀ g G M w,K.J g G M w)∧¬ K.nod
  | some y=>YFit K y
section
variable {K:Ctx} {s:ASt} {a:Act} {w w':World} {β:Nat→Loc} {cx:Cx} {g:List (Nat × Bool)} {o:Oper} {e:Eff} {d:Nat}
variable {r:Option Nat} {n:Nat} {next:Act→World→Prop} {Q:Exit→Act→World→Prop} {ops:Array Oper}
theorem Fit.mg (h:Fit K cx) (M:Nat→Prop):Fit (K.mg M) cx:=by
 refine ⟨h.nt,h.mixed,?_⟩
 have:=h.yl
 split<;>rename_i hy<;>rw [hy] at this
 ·exact this
 ·exact ⟨this.gid,this.nod,this.mf,this.pins,this.lt,this.call⟩
theorem RelB.round (h:RelB K s a w β) {y:YInfo} (hy:YFit K y) {M₂:Nat→Prop} {w₂:World} (hxx:Ext (fun b=>K.Mg b∧¬ K.Mx b) w w₂) (hold:∀ b,b<w.heap.size→M₂ b→K.Mg b) {t t':Ty} {x:t.D} {x':t'.D} (hg:s.obs y.gid=some (some (.gh t x))) (hJ:K.J (some ⟨t',x'⟩) (Own s β) M₂ w₂) :
  RelB (K.mg M₂) { s with obs:=put s.obs y.gid (some (some (.gh t' x'))) } a w₂ β∧Tr (Mset K.Mg s β) w (Mset M₂ { s with obs:=put s.obs y.gid (some (some (.gh t' x'))) } β) w₂:=by
 have ht:Trx K.Mg w M₂ w₂:=⟨hxx.mono fun _ _ h=>h.1,hold⟩
 have hgl:(β y.gid).blk=none:=h.ob _ _ hg
 have hgl':∀ b,¬ (β y.gid).has b:=by
  rintro b (hb | hb)
  ·rw [hgl] at hb;cases hb
  ·rw [h.sb _ _ hg rfl] at hb;cases hb
 have hcase:∀ o ob,put s.obs y.gid (some (some (.gh t' x'))) o=some (some ob)→(o=y.gid∧ob=.gh t' x')∨(o≠y.gid∧s.obs o=some (some ob)):=by
  intro o ob ho
  by_cases e:o=y.gid
  ·subst e;rw [put_same] at ho;cases ho;exact .inl ⟨rfl,rfl⟩
  ·rw [put_other _ _ e] at ho;exact .inr ⟨e,ho⟩
 have hlive:∀ o ob b,put s.obs y.gid (some (some (.gh t' x'))) o=some (some ob)→(β o).has b→s.obs o=some (some ob):=by
  intro o ob b ho hb
  rcases hcase o ob ho with ⟨rfl,rfl⟩ | ⟨_,h2⟩
  ·exact (hgl' b hb).elim
  ·exact h2
 have hown:∀ b,Own { s with obs:=put s.obs y.gid (some (some (.gh t' x'))) } β b→Own s β b:=by
  rintro b ⟨o,ob,ho,hf,hb⟩
  exact ⟨o,ob,hlive o ob b ho hb,hf,hb⟩
 have hown':∀ b,Own s β b→Own { s with obs:=put s.obs y.gid (some (some (.gh t' x'))) } β b:=by
  rintro b ⟨o,ob,ho,hf,hb⟩
  refine ⟨o,ob,?_,hf,hb⟩
  show put s.obs y.gid _ o=_
  rw [put_other _ _ (fun e=>by rw [e] at hb;exact hgl' b hb)];exact ho
 have hown2:Own { s with obs:=put s.obs y.gid (some (some (.gh t' x'))) } β=Own s β:=funext fun b=>propext ⟨hown b,hown' b⟩
 have htr:Tr (Mset K.Mg s β) w (Mset M₂ { s with obs:=put s.obs y.gid (some (some (.gh t' x'))) } β) w₂:=by
  refine ⟨(ht.1.mono fun b _ hb=>.inl hb).loose,fun b hb hm=>?_⟩
  rcases hm with hm | hm
  ·exact .inl (ht.2 b hb hm)
  ·exact .inr (hown b hm)
 have hcc:Compat s β { s with obs:=put s.obs y.gid (some (some (.gh t' x'))) } β:=by
  refine ⟨fun o ho=>?_,fun o ob ho=>.inr ?_⟩
  ·show put s.obs y.gid _ o=_
   rw [put_other _ _ (fun e=>by rw [e,hg] at ho;cases ho)];exact ho
  ·by_cases e:o=y.gid
   ·subst e
    rw [hg] at ho;cases ho
    exact ⟨_,put_same _ _ _,rfl,fun _ h=>h,fun _=>rfl,rfl,rfl⟩
   ·exact ⟨ob,(put_other _ _ e).trans ho,rfl,.refl _⟩
 have hblk:∀ o ob b,s.obs o=some (some ob)→(β o).has b→w₂.heap[b]?=w.heap[b]?:=fun o ob b ho hb=>ht.1.2 b (h.blk_lt ho hb) (h.dis o ob b ho hb)
 refine ⟨⟨?_,?_,?_,?_,?_,?_,?_,h.size,?_,h.dnd,h.nod,?_,?_,h.fix,h.posC hcc,?_⟩,htr⟩
 ·exact ⟨Nat.le_trans h.frame.1 ht.1.1,fun b hb hn=>(hxx.2 b (Nat.lt_of_lt_of_le hb h.frame.1) fun hm=>hn (hy.mf _ _ _ _ h.gh b hb hm.1 hm.2)).trans (h.frame.2 b hb hn),ht.1.io.1.trans h.frame.io.1,ht.1.io.2.trans h.frame.io.2⟩
 ·exact hy.lt _ _ _ _ hJ
 ·intro o ob b ho hb hM
  have ho:=hlive o ob b ho hb
  exact h.dis o ob b ho hb (ht.2 b (h.blk_lt ho hb) hM)
 ·intro o ob ho
  rcases hcase o ob ho with ⟨rfl,rfl⟩ | ⟨_,h2⟩
  ·exact hgl
  ·exact (h.ob o ob h2).next hcc htr fun b hb=>hblk o ob b h2 hb
 ·intro o o' ob ob' b ho ho' hb hb'
  exact h.inj o o' ob ob' b (hlive o ob b ho hb) (hlive o' ob' b ho' hb') hb hb'
 ·intro o ob b ho hf hb
  exact h.rng o ob b (hlive o ob b ho hb) hf hb
 ·intro t
  exact ⟨fun hg=>((h.env t).1 hg).next hcc htr,(h.env t).2⟩
 ·intro d hd
  obtain ⟨D,rfl,hD,hm,hm2⟩:=h.defs d hd
  have hlt:D<w.heap.size:=(Array.getElem?_eq_some_iff.1 hD).1
  exact ⟨D,rfl,(ht.1.2 D hlt hm).trans hD,fun hM=>hm (ht.2 D hlt hM),hm2⟩
 ·intro x hx
  obtain ⟨h1,h2⟩:=h.pins x hx
  exact ⟨(hxx.2 x.1 (Array.getElem?_eq_some_iff.1 h1).1 fun hm=>hm.2 (hy.pins _ _ _ _ h.gh x hx hm.1)).trans h1,h2⟩
 ·show K.J (ghOf (put s.obs y.gid _ K.gid)) (Own _ β) M₂ w₂
  rw [hy.gid,put_same,hown2]
  exact hJ
 ·intro o ob ho hr
  rcases hcase o ob ho with ⟨rfl,rfl⟩ | ⟨_,h2⟩
  ·exact h.sb _ _ hg rfl
  ·exact h.sb o ob h2 hr
theorem upon_round (hop:∀ c,o.op≠.defer c) {l:Nat} {us:Array Value} (hrun:(execOp a.eval o).run K.P w=(Instr.yield l us).run K.P w) {R:Ending→World→Prop} (hc:YieldAt (FF K.P none) 0 K.P l us w R)
  (hR:∀ e w',R e w'→(∃ v,e=.returned v∧next (a.put o.dst v) w')∨∃ ch,e=.panicked ch∧Q (.panic ch) a w'):o.wpIn (FF K.P r) n K.P a w next Q:=by
 obtain ⟨fn,tmps,assign,body,hy,hround⟩:=hc
 refine wpIn_of_run hop (hrun.trans hy) ?_
 refine ⟨fun h=>(by cases h),?_⟩
 refine RoundIn.mono (R:=R) ⟨hround.1,fun c cs hroom=>?_⟩ ?_
 ·obtain ⟨e,w',hr,hs⟩:=hround.2 c cs (by intro d h;cases h)
  exact ⟨e,w',hr,hs⟩
 ·intro e w' he
  rcases hR e w' he with ⟨v,rfl,hv⟩ | ⟨ch,rfl,hv⟩<;>exact hv
def PJ (K:Ctx) (Q:Exit→Act→World→Prop):Prop:=∀ ch a w,K.jp ch w→(∀ d∈a.defers,∃ D,d={ target:=.collected D,args:=#[] }∧w.heap[D]?=some (.deferred (some []))∧K.w0.heap.size≤D)→(a.defers.map dof).Nodup→Q (.panic ch) a w
theorem yArgs_rep {P:Program} {M:Nat→Prop} {two:Bool} {elt:Ty} {vs:List Dv} {us:List Value} {e:elt.D} (h:yArgs two elt vs=some e) (hr:All2 (fun (u:Value) (d:Dv)=>VRep P d.t w M u d.x) us vs):∃ cs,YR two elt us cs∧Rep P elt w M cs e:=by
 unfold yArgs at h
 split at h
 ·rename_i t v
  cases us with
  | nil=>exact hr.elim
  | cons u us =>
   cases us with
   | cons _ _=>exact hr.2.elim
   | nil =>
    obtain ⟨cs,h1,h2⟩:=castD_vrep h hr.1
    exact ⟨cs,by rw [h2];rfl,h1⟩
 ·rename_i ta tb v v'
  split at h
  ·rename_i x y h1 h2
   cases h
   cases us with
   | nil=>exact hr.elim
   | cons u us =>
    cases us with
    | nil=>exact hr.2.elim
    | cons u' us =>
     cases us with
     | cons _ _=>exact hr.2.2.elim
     | nil =>
      obtain ⟨cs,g1,rfl⟩:=castD_vrep h1 hr.1
      obtain ⟨ds,g2,rfl⟩:=castD_vrep h2 hr.2.1
      have l1:=g1.length
      refine ⟨cs++ds,?_,cs,ds,rfl,g1,g2⟩
      show [pack ta cs,pack tb ds]=[pack ta ((cs++ds).take ta.n),pack tb ((cs++ds).drop ta.n)]
      rw [←l1,List.take_left,List.drop_left]
  ·cases h
 ·cases h
theorem RelB.shut (h:RelB K s a w β) (hJ:∀ g G M w,K.J g G M w) {w1:World} (hx:Ext noM w w1) :
  RelB (K.mg fun b=>K.Mg b∨(w.heap.size≤b∧b<w1.heap.size)) s a w1 β∧Tr (Mset K.Mg s β) w (Mset (fun b=>K.Mg b∨(w.heap.size≤b∧b<w1.heap.size)) s β) w1:=by
 have ht:Tr (Mset K.Mg s β) w (Mset (fun b=>K.Mg b∨(w.heap.size≤b∧b<w1.heap.size)) s β) w1:=by
  refine ⟨(hx.mono fun _ _ h=>h.elim).loose,fun b hb hm=>?_⟩
  rcases hm with (hm | hm) | hm
  ·exact .inl hm
  ·omega
  ·exact .inr hm
 refine ⟨h.re2 rfl rfl rfl (fun t=>.inr ⟨rfl,.inr rfl⟩) ?_ ?_ ?_ ht (fun o ob b ho hb=>hx.2 b (h.blk_lt ho hb) id) h.rng ?_ ?_ h.dnd h.nod (hJ _ _ _ _) h.fix rfl,ht⟩
 ·exact ⟨Nat.le_trans h.frame.1 hx.1,fun b hb hn=>(hx.2 b (Nat.lt_of_lt_of_le hb h.frame.1) id).trans (h.frame.2 b hb hn),hx.io.1.trans h.frame.io.1,hx.io.2.trans h.frame.io.2⟩
 ·rintro b (hb | hb)
  ·exact Nat.lt_of_lt_of_le (h.mg b hb) hx.1
  ·exact hb.2
 ·rintro o ob b ho hb (hM | hM)
  ·exact h.dis o ob b ho hb hM
  ·have:=h.blk_lt ho hb;omega
 ·intro d hd
  obtain ⟨D,rfl,h1,h2,h3⟩:=h.defs d hd
  have hlt:D<w.heap.size:=(Array.getElem?_eq_some_iff.1 h1).1
  refine ⟨D,rfl,(hx.2 D hlt id).trans h1,?_,h3⟩
  rintro (hM | hM)
  ·exact h2 hM
  ·omega
 ·intro x hx'
  obtain ⟨h1,h2⟩:=h.pins x hx'
  exact ⟨(hx.2 x.1 (Array.getElem?_eq_some_iff.1 h1).1 id).trans h1,h2⟩
theorem RelB.open (h:RelB K s a w β) (hJ:∀ g G M w,K.J g G M w) {w1 w' w'':World} {S:ASt} {β':Nat→Loc} (h':RelB (K.mg fun b=>K.Mg b∨(w.heap.size≤b∧b<w1.heap.size)) S a w' β')
  (hx:Ext (fun b=>w.heap.size≤b∧b<w1.heap.size) w' w''):RelB K S a w'' β':=by
 have ht:Tr (Mset (fun b=>K.Mg b∨(w.heap.size≤b∧b<w1.heap.size)) S β') w' (Mset K.Mg S β') w'' :=
  ⟨(hx.mono fun b _ hd=>.inl (.inr hd)).loose,fun b _ hm=>hm.imp .inl id⟩
 refine h'.re2 (K2:=K) rfl rfl rfl (fun t=>.inr ⟨rfl,.inr rfl⟩) ?_ ?_ ?_ ht ?_ h'.rng ?_ ?_ h'.dnd h'.nod (hJ _ _ _ _) h'.fix rfl
 ·refine ⟨Nat.le_trans h'.frame.1 hx.1,fun b hb hn=>(hx.2 b (Nat.lt_of_lt_of_le hb h'.frame.1) ?_).trans (h'.frame.2 b hb hn),hx.io.1.trans h'.frame.io.1,hx.io.2.trans h'.frame.io.2⟩
  rintro ⟨h1,_⟩
  have h9:K.w0.heap.size≤w.heap.size:=h.frame.1
  omega
 ·intro b hb
  exact Nat.lt_of_lt_of_le (h'.mg b (.inl hb)) hx.1
 ·exact fun o ob b ho hb hM=>h'.dis o ob b ho hb (.inl hM)
 ·exact fun o ob b ho hb=>hx.2 b (h'.blk_lt ho hb) fun hd=>h'.dis o ob b ho hb (.inr hd)
 ·intro d hd
  obtain ⟨D,rfl,h1,h2,h3⟩:=h'.defs d hd
  exact ⟨D,rfl,(hx.2 D (Array.getElem?_eq_some_iff.1 h1).1 fun hd=>h2 (.inr hd)).trans h1,fun hM=>h2 (.inl hM),h3⟩
 ·intro x hx'
  obtain ⟨h1,h2⟩:=h'.pins x hx'
  refine ⟨(hx.2 x.1 (Array.getElem?_eq_some_iff.1 h1).1 ?_).trans h1,h2⟩
  rintro ⟨g1,_⟩
  have:=(Array.getElem?_eq_some_iff.1 (h.pins x hx').1).1
  omega
theorem rel_sound (hcx:CxOk K.P cx) (hf:Fit K cx) (h:RelB K s a w β) {T:(Eff→Prop)→Prop} (hg:Hold a g) (hT:relEff cx s g o=some T) {Qe:Eff→Prop} (hQ:T Qe)
  (hn:∀ M e v w' β',(cx.yl=none→M=K.Mg)→Qe e→RelB (K.mg M) (after s e.wr) a w' β'→AVRep K.P (after s e.wr) β' w' (Mset M (after s e.wr) β') e.av v→next (a.put o.dst v) w') (hj:PJ K Q):o.wpIn (FF K.P r) n K.P a w next Q:=by
 have hKm:K.mg K.Mg=K:=rfl
 unfold relEff at hT
 split at hT
 ·-- the step of a range over a map
  rename_i it d hop hd
  have hop:o.op=.next it false:=hop
  simp only [Option.some.injEq] at hT
  subst hT
  obtain ⟨e,v,w',g1,g2,g3,g4⟩:=next_sound h hg hop hQ
  exact wpIn_of_run (fun c' hc'=>by rw [hop] at hc';cases hc') g2 (hn K.Mg e v w' β (fun _=>rfl) g1 (by rw [hKm];exact g3) g4)
 ·-- a look-up
  rename_i T' m k d hop hd
  have hop:o.op=.lookup T' m k true:=hop
  dsimp only at hT
  rw [Bool.cond_eq_ite] at hT
  split at hT
  ·cases hT
  simp only [Option.some.injEq] at hT
  subst hT
  have hm:=ev_rep (cx:=cx) h hg T' m
  have hk:=ev_rep (cx:=cx) h hg (keyTy cx T') k
  generalize ev cx s g T' m=am at hQ hm
  generalize ev cx s g (keyTy cx T') k=ak at hQ hk
  unfold lookupRel at hQ
  split at hQ
  ·rename_i q
   split at hQ
   ·rename_i tk tv inv hq
    simp only [AVRep,SVRep,hq] at hm
    obtain ⟨_,b,hb,em⟩:=hm
    split at hQ
    ·rename_i xd hxd
     split at hQ
     ·rename_i x hx
      cases hmt:mapTys cx T' tk tv with
      | false=>rw [hmt] at hQ;exact hQ.elim
      | true =>
       rw [hmt] at hQ
       simp only [cond_true] at hQ
       have hkv:=castD_vrep hx (AV.dv_rep hcx h hk hxd (under_mg h fun q hq=>open_live hq))
       obtain ⟨b',es,ck,kt,et,hb',hh,hu,hchk,hes,hetv,hzok,hfind⟩:=map_find hcx h hq hmt hkv
       rw [hb] at hb';cases hb'
       have hnd:∀ c',o.op≠.defer c':=fun c' hc'=>by rw [hop] at hc';cases hc'
       rcases hfind with hf' | ⟨j,e,hf',hj,hke,hst,y,hy,hinv⟩
       ·have hz:=(hcx.ty et tv hetv).zero hzok w
        have hrun:(execOp a.eval o).run K.P w=.ok (.value (.tuple #[pack tv (zc tv),.bool false])) w:=by
         simp [execOp,hop,em,Instr.lookup,run_underlying hu,MapKept.run_getObj_map hh,hchk,hf',hz,Result.andThen]
        refine wpIn_of_run hnd hrun ?_
        refine hn K.Mg _ _ w β (fun _=>rfl) hQ.2 (by rw [hKm];exact h) ?_
        exact ⟨[pack tv (zc tv),.bool false],rfl,⟨zc tv,zc_rep tv w _ hzok,rfl⟩,⟨_,rfl,rfl⟩,trivial⟩
       ·have hrun:(execOp a.eval o).run K.P w=.ok (.value (.tuple #[e.val,.bool true])) w:=by
         simp [execOp,hop,em,Instr.lookup,run_underlying hu,MapKept.run_getObj_map hh,hchk,hf',Result.andThen]
        refine wpIn_of_run hnd hrun ?_
        refine hn K.Mg _ _ w β (fun _=>rfl) (hQ.1 y hinv) (by rw [hKm];exact h) ?_
        exact ⟨[e.val,.bool true],rfl,hy,⟨_,rfl,rfl⟩,trivial⟩
     ·exact hQ.elim
    ·exact hQ.elim
   ·exact hQ.elim
  ·exact hQ.elim
 ·-- a call of the rounds' function
  rename_i c d hop hd
  have hop:o.op=.call c:=hop
  dsimp only at hT
  split at hT
  ·rename_i f y hc hyl
   split at hT
   ·rename_i ly hev
    simp only [Option.some.injEq] at hT
    subst hT
    have hfit:YFit K y:=by have:=hf.yl;rw [hyl] at this;exact this
    have hff:=ev_rep (cx:=cx) h hg 0 f
    rw [hev] at hff
    have hff:a.eval f=.func (.yield ly) #[] #[]:=hff
    have hxs:=args_rep (cx:=cx) h hg c.args.toList c.argTypes.toList
    generalize argAVs (ev cx s g) c.args.toList c.argTypes.toList=axs at hQ hxs
    unfold yieldRel at hQ
    split at hQ
    ·rename_i t x vs ids fz hgh hsol
     split at hQ
     ·rename_i l e hl he
      cases hcd:(!memN y.gid (fz.map (·.1))) with
      | false=>rw [hcd] at hQ;exact hQ.elim
      | true =>
       rw [hcd] at hQ
       simp only [cond_true] at hQ
       obtain ⟨⟨hly,hx2⟩,⟨rr,hall⟩,hq1,hq2⟩:=hQ
       obtain ⟨et,el⟩:=castD_some hl
       cases et
       have el:l=x.1:=el
       subst el
       obtain ⟨h1,h2,h3,h4⟩:=solid_rep hcx h hsol hxs
       have hg1:(after s fz).obs y.gid=some (some (.gh (.p (.sl y.elt) .bo) x)):=by
        have:(after s fz).obs y.gid=frO s (axs.flatMap (AV.open? s)) y.gid:=by
         unfold solid at hsol
         split at hsol
         ·cases hsol;exact freeze_obs s _ _
         ·cases hsol
        rw [this];unfold frO;rw [hgh];simp [frOb]
       have hJ0:=h1.gh
       rw [hfit.gid,hg1] at hJ0
       have hx':x=(x.1,false):=by rw [←hx2]
       have hJ1:K.J (some ⟨yTy y.elt,(x.1,false)⟩) (Own (after s fz) β) K.Mg w:=by
        have e1:ghOf (some (some (Ob.gh (.p (.sl y.elt) .bo) x)))=some ⟨yTy y.elt,(x.1,false)⟩:=by
         show some (Dv.mk _ x)=_
         rw [hx'];rfl
        rw [e1] at hJ0;exact hJ0
       have hG:∀ b,Own (after s fz) β b→¬ K.Mg b∧(K.w0.heap.size≤b∨K.Ml b):=by
        rintro b ⟨p,ob,p1,p2,p3⟩
        exact ⟨h1.dis p ob b p1 p3,h1.rng p ob b p1 p2 p3⟩
       have hG2:∀ b,Own (after s fz) β b→b<w.heap.size:=by
        rintro b ⟨p,ob,p1,p2,p3⟩
        exact h1.blk_lt p1 p3
       have hargs:=yArgs_rep he h4
       have hY:=hfit.call x.1 e rr (Own (after s fz) β) K.Mg w (c.args.toList.map a.eval) hall hJ1 hargs hG hG2
       have hly:ly=y.ly:=hly
       subst hly
       have hnd:∀ c',o.op≠.defer c':=fun c' hc'=>by rw [hop] at hc';cases hc'
       have hmap:(c.args.toList.map a.eval).toArray=c.args.map a.eval:=by apply Array.ext';simp
       refine upon_round hnd (l:=y.ly) (us:=(c.args.toList.map a.eval).toArray) ?_ hY ?_
       ·unfold execOp
        simp only [hop,resolve,hc,Deferred.ofValue,hff,Sem.run_bind,Sem.run_pure,Result.andThen_ok,invoke]
        rw [hmap];simp
       ·intro r' w₂ hr'
        rcases hr' with ⟨rfl,M₂,hJ2,ht,ho⟩ | ⟨rfl,M₂,hJ2,ht,ho⟩ | ⟨ch,rfl,hjp,hxx⟩
        rotate_right
        ·refine .inr ⟨ch,rfl,hj ch a w₂ hjp (fun d hd=>?_) h.dnd⟩
         obtain ⟨D,e1,e2,e3,e4⟩:=h.defs d hd
         exact ⟨D,e1,(hxx.2 D (Array.getElem?_eq_some_iff.1 e2).1 fun hm=>e3 hm.1).trans e2,e4⟩
        all_goals refine .inl ?_
        ·obtain ⟨k1,k2⟩:=h1.round hfit ht ho hg1 hJ2
         exact ⟨_,rfl,hn M₂ _ _ w₂ β (fun e=>by rw [hyl] at e;cases e) hq1 k1 mk_bool⟩
        ·obtain ⟨k1,k2⟩:=h1.round hfit ht ho hg1 hJ2
         exact ⟨_,rfl,hn M₂ _ _ w₂ β (fun e=>by rw [hyl] at e;cases e) hq2 k1 mk_bool⟩
     ·exact hQ.elim
    ·exact hQ.elim
   ·cases hT
  ·rename_i f hc hyl
   split at hT
   ·-- a call of a function that does what it is given
    rename_i T' htf
    simp only [Option.some.injEq] at hT
    subst hT
    have hJt:∀ g G M w,K.J g G M w:=by have:=hf.yl;rw [hyl] at this;exact this.1
    have hnd:∀ c',o.op≠.defer c':=fun c' hc'=>by rw [hop] at hc';cases hc'
    have hxs:=args_rep (cx:=cx) h hg c.args.toList c.argTypes.toList
    have hmap:(c.args.toList.map a.eval).toArray=c.args.map a.eval:=by apply Array.ext';simp
    generalize argAVs (ev cx s g) c.args.toList c.argTypes.toList=axs at hQ hxs
    unfold tryRel at hQ
    split at hQ
    rotate_left
    ·exact hQ.elim
    rename_i g₀ caps
    split at hQ
    rotate_left
    ·exact hQ.elim
    rename_i p hp
    split at hQ
    rotate_left
    ·exact hQ.elim
    rename_i m hm
    split at hQ
    rotate_left
    ·exact hQ.elim
    rename_i x e hx he
    rw [Bool.cond_eq_ite] at hQ
    split at hQ
    rotate_left
    ·exact hQ.elim
    rename_i hbb
    simp only [Bool.and_eq_true] at hbb
    have hTe:=Nat.eq_of_beq_eq_true hbb.1
    subst hTe
    obtain ⟨hob,hq1,hq2⟩:=hQ
    obtain ⟨hent,htry⟩:=hcx.tryf f _ htf
    obtain ⟨hentg,hX⟩:=hcx.pcon g₀ p hp
    generalize hus:c.args.toList.map a.eval=us at hxs
    cases us with
    | nil=>exact hxs.elim
    | cons u us =>
    cases us with
    | cons _ _=>exact hxs.2.elim
    | nil =>
    obtain ⟨vs,rfl,hcs⟩:=hxs.1
    have hargs:c.args.map a.eval=#[.func (.func g₀) #[] vs.toArray]:=by rw [←hmap,hus]
    have hcall:=htry w g₀ vs.toArray (fun w1 w'=>p.ok x=true∧∃ β',RelB (K.mg fun b=>K.Mg b∨(w.heap.size≤b∧b<w1.heap.size)) (after s e.wr) a w' β')
     (fun w1 w'=>p.ok x=false∧RelB (K.mg fun b=>K.Mg b∨(w.heap.size≤b∧b<w1.heap.size)) (after s (lostWr s m)) a w' β) hentg ?inner
    case inner =>
     intro w1 hx1
     obtain ⟨k1,k2⟩:=h.shut hJt hx1
     have hkeep:∀ w',Ext (Own s β) w1 w'→∀ b o,w.heap.size≤b→w1.heap[b]?=some o→w'.heap[b]?=some o:=by
      intro w' hx' b o hb ho
      refine (hx'.2 b (Array.getElem?_eq_some_iff.1 ho).1 ?_).trans ho
      rintro ⟨q,ob,g1,_,g3⟩
      have:=h.blk_lt g1 g3
      omega
     have hcl:=callLG (K:=K.mg fun b=>K.Mg b∨(w.heap.size≤b∧b<w1.heap.size)) (d:=d) (w:=w1) (p:=p) (args:=[]) (us:=[]) (vs:=vs)
      (N:=fun _ w'=>Ext (Own s β) w1 w'∧p.ok x=true∧∃ β',RelB (K.mg fun b=>K.Mg b∨(w.heap.size≤b∧b<w1.heap.size)) (after s e.wr) a w' β')
      (X:=fun ch w'=>ch=pch p.exn∧Ext (Own s β) w1 w'∧p.ok x=false∧RelB (K.mg fun b=>K.Mg b∨(w.heap.size≤b∧b<w1.heap.size)) (after s (lostWr s m)) a w' β)
      hcx k1 hX trivial (hcs.mono fun _ _ h=>h.next (.refl _ _) k2) he (fun r hr=>by rw [hr] at hob;exact hob) ?_ ?_
     ·refine hcl.mono ?_
      rintro e' w' (⟨v,rfl,g1,g2⟩ | ⟨ch,rfl,rfl,g1,g2⟩)
      ·exact ⟨hkeep w' g1,.inl ⟨v,rfl,g2⟩⟩
      ·exact ⟨hkeep w' g1,.inr ⟨rfl,g2⟩⟩
     ·intro m' x' w' e1 e2 hok hx' _ hl
      rw [show matchK cx s g₀ caps p.l.args 0 ([]++caps.map .s)=some m from hm] at e1
      cases e1
      rw [hx] at e2;cases e2
      exact ⟨rfl,hx',hok,hl⟩
     ·intro hok v w' β' hx' hr _
      exact ⟨hx',hok m x hm hx,β',hr⟩
    refine upon_enter hnd ((run_callVal (g₁:=f) (first:=#[]) (caps:=#[]) hop hc rfl).trans (hent _ _)) ?_ ?_ (R:=fun e5 w5=>∃ w1 w',Ext noM w w1∧Ext (fun b=>w.heap.size≤b∧b<w1.heap.size) w' w5∧((e5=.returned (.bool true)∧(p.ok x=true∧∃ β',RelB (K.mg fun b=>K.Mg b∨(w.heap.size≤b∧b<w1.heap.size)) (after s e.wr) a w' β'))∨(e5=.returned (.bool false)∧(p.ok x=false∧RelB (K.mg fun b=>K.Mg b∨(w.heap.size≤b∧b<w1.heap.size)) (after s (lostWr s m)) a w' β))))
    ·rw [hargs]
     exact hcall
    ·rintro e5 w5 ⟨w1,w',hx1,hx2,⟨rfl,hok,β',hr⟩ | ⟨rfl,hok,hr⟩⟩
     ·exact ⟨_,rfl,hn K.Mg _ _ w5 β' (fun _=>rfl) (hq1 hok) (by rw [hKm];exact h.open hJt hr hx2) mk_bool⟩
     ·exact ⟨_,rfl,hn K.Mg _ _ w5 β (fun _=>rfl) (hq2 hok) (by rw [hKm];exact h.open hJt hr hx2) mk_bool⟩
   ·-- a call whose result is nil where it is empty
    obtain ⟨hnz,hT⟩:=cond_opt' hT
    subst hT
    have hnd:∀ c',o.op≠.defer c':=fun c' hc'=>by rw [hop] at hc';cases hc'
    have hxs:=args_rep (cx:=cx) h hg c.args.toList c.argTypes.toList
    have hmap:(c.args.toList.map a.eval).toArray=c.args.map a.eval:=by apply Array.ext';simp
    generalize argAVs (ev cx s g) c.args.toList c.argTypes.toList=axs at hQ hxs
    unfold nzRel at hQ
    split at hQ
    rotate_left
    ·exact hQ.elim
    rename_i p t l ids wr he
    obtain ⟨hp,hq1,hq2⟩:=hQ
    refine upon_callZ hcx h hnd hxs he (fun q hq=>by cases hq;exact hp) ?_ ?_
    ·rw [hmap]
     exact ((run_callVal (g₁:=f) (first:=#[]) (caps:=#[]) hop hc rfl).trans (by simp))
    ·intro v w' β' hr hv hZ
     by_cases hl:(l:List t.D)=[]
     ·exact hn K.Mg _ _ w' β' (fun _=>rfl) (hq1 hl) (by rw [hKm];exact hr) (hZ hnz t l rfl hl)
     ·exact hn K.Mg _ _ w' β' (fun _=>rfl) (hq2 hl) (by rw [hKm];exact hr) hv
  ·cases hT
 ·-- a slice held against nil
  rename_i T' x y u d hop hd
  have hop:o.op=.binOp .eql T' x y u:=hop
  obtain ⟨hnil,hT⟩:=cond_opt' hT
  subst hT
  obtain rfl:y=.const (.slice none 0 0):=by
   unfold isNil at hnil
   split at hnil
   ·rfl
   ·cases hnil
  have hx:=ev_rep (cx:=cx) h hg T' x
  generalize ev cx s g T' x=ax at hQ hx
  unfold nilRel at hQ
  split at hQ
  ·rename_i t₀ t l hT0 hxd
   have hv:VRep K.P (.sl t) w K.Mg (a.eval x) l:=AV.dv_rep hcx h hx hxd (under_mg h fun q hq=>open_live hq)
   obtain ⟨ad,cap,ev,hle,hm⟩:=sl_val hv
   have hnd:∀ c',o.op≠.defer c':=fun c' hc'=>by rw [hop] at hc';cases hc'
   have hus:=(sl_facts (hcx.ty T' _ hT0)).1
   have hrun:(execOp a.eval o).run K.P w=.ok (.value (.bool ad.isNone)) w:=by
    have e0:a.eval (.const (.slice none 0 0))=.slice none 0 0:=rfl
    have heq:(Op.equal T' (.slice ad (l:List t.D).length cap) (.slice none 0 0)).run K.P w=.ok ad.isNone w:=by
     have key:∀ dd:Nat,(Op.equalIn (dd+1) T' (.slice ad (l:List t.D).length cap) (.slice none 0 0)).run K.P w=.ok ad.isNone w:=fun dd=>by
      cases ad<;>simp [Op.equalIn,run_underlying hus]
     exact key 9999
    simp [execOp,hop,ev,e0,eqGuard,binOp,heq]
   refine wpIn_of_run hnd hrun ?_
   split at hQ
   ·have hnone:ad=none:=by
     have h0:Value.slice ad (l:List t.D).length cap=.slice none 0 0:=ev▸hx
     exact (Value.slice.inj h0).1
    subst hnone
    exact hn K.Mg _ _ w β (fun _=>rfl) hQ (by rw [hKm];exact h) mk_bool
   ·cases ad with
    | none =>
     have hl0:l=[]:=by
      rcases hm with h0 | ⟨b,off,vss,h0,_⟩
      ·exact h0
      ·cases h0
     exact hn K.Mg _ _ w β (fun _=>rfl) (hQ.1 hl0) (by rw [hKm];exact h) mk_bool
    | some p=>exact hn K.Mg _ _ w β (fun _=>rfl) hQ.2 (by rw [hKm];exact h) mk_bool
  ·rename_i t₀ t l hT0 hxd
   have hv:VRep K.P (.sz t) w K.Mg (a.eval x) l:=AV.dv_rep hcx h hx hxd (under_mg h fun q hq=>open_live hq)
   obtain ⟨ad,cap,ev,hz⟩:=sz_held hv
   have hnd:∀ c',o.op≠.defer c':=fun c' hc'=>by rw [hop] at hc';cases hc'
   have hus:=(sl_facts (hcx.ty T' _ hT0)).1
   have hrun:(execOp a.eval o).run K.P w=.ok (.value (.bool (Z.eq (Z.len (l:List t.D)) 0))) w:=by
    have e0:a.eval (.const (.slice none 0 0))=.slice none 0 0:=rfl
    have heq:(Op.equal T' (.slice ad (l:List t.D).length cap) (.slice none 0 0)).run K.P w=.ok ad.isNone w:=by
     have key:∀ dd:Nat,(Op.equalIn (dd+1) T' (.slice ad (l:List t.D).length cap) (.slice none 0 0)).run K.P w=.ok ad.isNone w:=fun dd=>by
      cases ad<;>simp [Op.equalIn,run_underlying hus]
     exact key 9999
    rw [hz] at heq
    simp [execOp,hop,ev,e0,eqGuard,binOp,heq]
   refine wpIn_of_run hnd hrun ?_
   exact hn K.Mg _ _ w β (fun _=>rfl) hQ (by rw [hKm];exact h) mk_bool
  ·exact hQ.elim
 ·-- the same,but that it is not
  rename_i T' x y u d hop hd
  have hop:o.op=.binOp .neq T' x y u:=hop
  obtain ⟨hnil,hT⟩:=cond_opt' hT
  subst hT
  obtain rfl:y=.const (.slice none 0 0):=by
   unfold isNil at hnil
   split at hnil
   ·rfl
   ·cases hnil
  have hx:=ev_rep (cx:=cx) h hg T' x
  generalize ev cx s g T' x=ax at hQ hx
  unfold nilRel at hQ
  split at hQ
  ·rename_i t₀ t l hT0 hxd
   have hv:VRep K.P (.sl t) w K.Mg (a.eval x) l:=AV.dv_rep hcx h hx hxd (under_mg h fun q hq=>open_live hq)
   obtain ⟨ad,cap,ev,hle,hm⟩:=sl_val hv
   have hnd:∀ c',o.op≠.defer c':=fun c' hc'=>by rw [hop] at hc';cases hc'
   have hus:=(sl_facts (hcx.ty T' _ hT0)).1
   have hrun:(execOp a.eval o).run K.P w=.ok (.value (.bool (!ad.isNone))) w:=by
    have e0:a.eval (.const (.slice none 0 0))=.slice none 0 0:=rfl
    have heq:(Op.equal T' (.slice ad (l:List t.D).length cap) (.slice none 0 0)).run K.P w=.ok ad.isNone w:=by
     have key:∀ dd:Nat,(Op.equalIn (dd+1) T' (.slice ad (l:List t.D).length cap) (.slice none 0 0)).run K.P w=.ok ad.isNone w:=fun dd=>by
      cases ad<;>simp [Op.equalIn,run_underlying hus]
     exact key 9999
    simp [execOp,hop,ev,e0,eqGuard,binOp,heq]
   refine wpIn_of_run hnd hrun ?_
   split at hQ
   ·have hnone:ad=none:=by
     have h0:Value.slice ad (l:List t.D).length cap=.slice none 0 0:=ev▸hx
     exact (Value.slice.inj h0).1
    subst hnone
    exact hn K.Mg _ _ w β (fun _=>rfl) hQ (by rw [hKm];exact h) mk_bool
   ·cases ad with
    | none =>
     have hl0:l=[]:=by
      rcases hm with h0 | ⟨b,off,vss,h0,_⟩
      ·exact h0
      ·cases h0
     exact hn K.Mg _ _ w β (fun _=>rfl) (hQ.1 hl0) (by rw [hKm];exact h) mk_bool
    | some p=>exact hn K.Mg _ _ w β (fun _=>rfl) hQ.2 (by rw [hKm];exact h) mk_bool
  ·rename_i t₀ t l hT0 hxd
   have hv:VRep K.P (.sz t) w K.Mg (a.eval x) l:=AV.dv_rep hcx h hx hxd (under_mg h fun q hq=>open_live hq)
   obtain ⟨ad,cap,ev,hz⟩:=sz_held hv
   have hnd:∀ c',o.op≠.defer c':=fun c' hc'=>by rw [hop] at hc';cases hc'
   have hus:=(sl_facts (hcx.ty T' _ hT0)).1
   have hrun:(execOp a.eval o).run K.P w=.ok (.value (.bool (!Z.eq (Z.len (l:List t.D)) 0))) w:=by
    have e0:a.eval (.const (.slice none 0 0))=.slice none 0 0:=rfl
    have heq:(Op.equal T' (.slice ad (l:List t.D).length cap) (.slice none 0 0)).run K.P w=.ok ad.isNone w:=by
     have key:∀ dd:Nat,(Op.equalIn (dd+1) T' (.slice ad (l:List t.D).length cap) (.slice none 0 0)).run K.P w=.ok ad.isNone w:=fun dd=>by
      cases ad<;>simp [Op.equalIn,run_underlying hus]
     exact key 9999
    rw [hz] at heq
    simp [execOp,hop,ev,e0,eqGuard,binOp,heq]
   refine wpIn_of_run hnd hrun ?_
   exact hn K.Mg _ _ w β (fun _=>rfl) hQ (by rw [hKm];exact h) mk_bool
  ·exact hQ.elim
 ·-- objects in parts become data
  rename_i x d hop hd
  have hop:o.op=.assign (.tmp x):=hop
  have hnd:∀ c',o.op≠.defer c':=fun c' hh=>by rw [hop] at hh;cases hh
  split at hT
  ·rename_i l hl
   cases hT
   unfold stlRel at hQ
   split at hQ
   ·rename_i wr hwr
    obtain ⟨h1,h2⟩:=stlAll_rel hcx h hwr
    have hrun:(execOp a.eval o).run K.P w=.ok (.value (a.eval (.tmp x))) w:=by simp [execOp,hop]
    refine wpIn_of_run hnd hrun ?_
    exact hn K.Mg _ _ w β (fun _=>rfl) hQ (by rw [hKm];exact h1) (h2 _ _ (ev_rep (cx:=cx) h hg 0 (.tmp x)))
   ·exact hQ.elim
  ·cases hT
 ·cases hT
theorem panicT_sound (h:RelB K s a w β) {T:Nat} (hp:panicT cx s o=some T) (hq:Q (.panic (pch T)) a w):o.wpIn (FF K.P r) n K.P a w next Q:=by
 have hg:Hold a []:=fun x hx=>by cases hx
 unfold panicT at hp
 split at hp
 ·rename_i x hop
  have hop:o.op=.panic x:=hop
  have hnd:∀ c',o.op≠.defer c':=fun c' hh=>by rw [hop] at hh;cases hh
  have hx:=ev_rep (cx:=cx) h hg 0 x
  split at hp
  ·rename_i T' hev
   cases hp
   rw [hev] at hx
   have hx:a.eval x=.iface T (.agg #[]):=hx
   have hrun:(execOp a.eval o).run K.P w=.halt (.panic (.iface T (.agg #[]))) w:=by
    simp [execOp,hop,hx,Instr.panic]
   refine ⟨fun f hf=>(by simp [Oper.about,hop] at hf),?_⟩
   rw [Oper.semAt_eq _ _ _ hnd,hrun]
   exact hq
  ·cases hp
 ·cases hp
theorem pan_sound (hcx:CxOk K.P cx) (h:RelB K s a w β) {p:Pan} (hp:panEff cx s o=some p) (hob:∀ r,p.e.obl=some r→r)
  (hq:p.b=false→∀ w',((∀ g G M w,K.J g G M w)→RelB K goneAll a w' β)→Q (.panic (pch p.T)) a w')
  (hn:p.b=true→∀ v w' β',RelB K (after s p.e.wr) a w' β'→AVRep K.P (after s p.e.wr) β' w' (Mset K.Mg (after s p.e.wr) β') p.e.av v→next (a.put o.dst v) w'):o.wpIn (FF K.P r) n K.P a w next Q:=by
 have hg:Hold a []:=fun x hx=>by cases hx
 unfold panEff at hp
 split at hp
 ·rename_i c d hop hd
  have hop:o.op=.call c:=hop
  have hnd:∀ c',o.op≠.defer c':=fun c' hh=>by rw [hop] at hh;cases hh
  split at hp
  ·rename_i f hc
   have hf:=ev_rep (cx:=cx) h hg 0 f
   have hxs:=args_rep (cx:=cx) h hg c.args.toList c.argTypes.toList
   have hmap:(c.args.toList.map a.eval).toArray=c.args.map a.eval:=by apply Array.ext';simp
   split at hp
   ·rename_i g₁ caps hev
    rw [hev] at hf
    obtain ⟨us,ef,hus⟩:=hf
    split at hp
    ·rename_i k hk
     unfold panCall at hp
     split at hp
     ·cases hp
     rename_i m hm
     split at hp
     ·cases hp
     rename_i x hx
     split at hp
     ·rename_i e' he'
      cases hp
      refine upon_callLG hcx h hnd (hcx.pcon g₁ k hk) hxs hus he' hob ?_ (fun m' x' w' e1 e2 hok hr=>?_) (fun hok=>hn (hok m x hm hx))
      ·rw [run_callVal hop hc ef,←hmap]
       simp
      ·rw [hm] at e1;cases e1
       rw [hx] at e2;cases e2
       exact hq hok w' hr
     ·cases hp
    ·cases hp
   ·cases hp
  ·cases hp
 ·cases hp
theorem not_hold (h:RelB K s a w β) {g:List (Nat × Bool)} (hn:¬ Hold a g):gNot s g:=by
 unfold gNot
 split
 ·rename_i t b
  split
  ·rename_i x hx
   have h2:=(h.env t).1 (by rw [hx];intro x hx;cases hx)
   rw [hx] at h2
   have hv:=bool_val h2
   have:x≠b:=by
    rintro rfl
    refine hn fun y hy=>?_
    rcases List.mem_cons.1 hy with rfl | hy
    ·exact hv
    ·cases hy
   cases x<;>cases b<;>first | exact rfl | exact absurd rfl this
  ·trivial
 ·trivial
theorem RelB.reslot (h:RelB K s a w β) {t:Nat} {v:AV} (hv:AVRep K.P s β w (Mset K.Mg s β) v (a.tmps.getD t undef)):RelB K { s with env:=put s.env t ⟨[],v⟩ } a w β:=by
 have hM:Mset K.Mg { s with env:=Sx.put s.env t ⟨[],v⟩ } β=Mset K.Mg s β:=rfl
 have hcc:Compat s β { s with env:=Sx.put s.env t ⟨[],v⟩ } β:=.of_obs _ rfl
 refine ⟨h.frame,h.mg,h.dis,fun o ob ho=>(h.ob o ob ho).next hcc (.refl _ _) fun _ _=>rfl,h.inj,h.rng,?_,h.size,h.defs,h.dnd,h.nod,h.pins,h.gh,h.fix,h.pos,h.sb⟩
 intro t'
 by_cases ht:t'=t
 ·subst ht
  simp only [put_same,hM]
  exact ⟨fun _=>hv.next hcc (.refl _ _),fun hh=>absurd (fun x hx=>by cases hx) hh⟩
 ·simp only [put_other s.env _ ht,hM]
  exact ⟨fun hh=>((h.env t').1 hh).next hcc (.refl _ _),(h.env t').2⟩
theorem ali_did (hcx:CxOk K.P cx) (h:RelB K s a w β) {t:Nat} {v:AV} (he:aliEff cx s o=some (e,t,v)) (hob:∀ r,e.obl=some r→r) :
  ∃ d,o.dst=some d∧(∀ c,o.op≠.defer c)∧d≠t∧∃ u w' β',(execOp a.eval o).run K.P w=.ok (.value u) w'∧RelB K (after s e.wr) a w' β'∧AVRep K.P (after s e.wr) β' w' (Mset K.Mg (after s e.wr) β') e.av u ∧
   AVRep K.P (after s e.wr) β' w' (Mset K.Mg (after s e.wr) β') v (a.tmps.getD t undef):=by
 have hg:Hold a []:=fun x hx=>by cases hx
 unfold aliEff at he
 split at he
 ·rename_i T n parts d hop hd
  have hop:o.op=.buildSlice T n parts:=hop
  split at he
  ·rename_i t' k x hal hpl
   split at he
   ·rename_i r r' hev hent
    rw [Bool.cond_eq_ite] at he
    split at he
    ·rename_i hc
     simp only [Bool.and_eq_true,Bool.not_eq_true'] at hc
     obtain ⟨⟨c1,c2⟩,c3⟩:=hc
     have c1:=Nat.eq_of_beq_eq_true c1
     subst c1
     simp only [Option.map_eq_some_iff,Prod.mk.injEq] at he
     obtain ⟨e',he,rfl,rfl,rfl⟩:=he
     have hx:=ev_rep (cx:=cx) h hg 0 x
     rw [hev] at hx
     have ht:=(h.env t').1 (by rw [hent];intro x hx;cases hx)
     rw [hent] at ht
     have he1:buildR cx s d T n (parts.toList.map fun x=>(x.1,ev cx s [] 0 x.2))=some e':=by
      rw [hpl];simpa [hev] using he
     obtain ⟨u,w',β',h1,h2,h3,h4⟩:=did_buildR hcx h hg hop hd he1
     refine ⟨d,hd,fun c hc=>(by rw [hop] at hc;cases hc),fun e=>(by rw [e,Nat.beq_refl] at c3;cases c3),u,w',β',h1,h2,h3,?_⟩
     rw [hpl] at h4
     cases hr:s.obs r with
     | none=>simp only [AVRep,SVRep,hr] at hx
     | some y =>
      cases y with
      | none =>
       unfold buildR at he
       split at he
       ·simp only [List.map_cons,List.map_nil,rowsOf,hr] at he
        cases he
       ·cases he
      | some ob =>
       simp only [AVRep,SVRep,hr] at hx ht
       unfold buildR at he
       split at he
       ·split at he
        ·obtain ⟨_,he⟩:=cond_some he
         subst he
         simp only [AVRep]
         rename_i ls ids hro hb
         rw [after_ids ids d]
         have hdi:d∉ids:=fun hi=>by
          simp only [Bool.and_eq_true,Bool.not_eq_true'] at hb
          have:=memN_iff.2 hi;rw [hb.2.2] at this;cases this
         rw [if_neg hdi,put_same]
         refine ⟨0,rfl,Nat.le_refl _,fun _=>?_⟩
         rw [h4]
         show some (a.eval x)=some _
         rw [hx.2]
         exact congrArg some ht.2.symm
        ·cases he
       ·cases he
    ·cases he
   ·cases he
  ·cases he
 ·rename_i c d hop hd
  have hop:o.op=.call c:=hop
  split at he
  ·rename_i t' T T' p q hal hcal hts hxs
   split at he
   ·rename_i f₁ g₁ e₁ k₁ t₁ l f₂ g₂ e₂ k₂ t₂ l₂ q' g' hp hq hent
    rw [Bool.cond_eq_ite] at he
    split at he
    ·rename_i hc
     simp only [Bool.and_eq_true,Bool.not_eq_true'] at hc
     obtain ⟨⟨⟨c1,c2⟩,c3,c4⟩,c5⟩:=hc
     have c1:=Nat.eq_of_beq_eq_true c1
     have c2:=Nat.eq_of_beq_eq_true c2
     subst c1;subst c2
     simp only [Option.map_eq_some_iff,Prod.mk.injEq] at he
     obtain ⟨e',he,rfl,rfl,rfl⟩:=he
     have ht:=(h.env t').1 (by rw [hent];intro x hx;cases hx)
     rw [hent] at ht
     obtain ⟨o₁,o₂,q1,q2,u,w',β',h1,h2,h3,h4⟩:=did_appendR (g:=[]) hcx h hg hop hcal hxs hts c3 he hob
     cases q1;cases q2
     refine ⟨d,hd,fun c' hc=>(by rw [hop] at hc;cases hc),fun e=>(by rw [e,Nat.beq_refl] at c5;cases c5),u,w',β',h1,h2,h3,?_⟩
     simp only [AVRep,hq] at ht
     obtain ⟨g₀,r1,r2,r3⟩:=ht
     cases r1
     have r3:=r3 rfl
     have hl:=(h.ob _ _ hp).2.2.2.2.2.length
     have hobd:∃ ob,(after s e'.wr).obs d=some (some ob)∧obPos ob [.o]=some 0:=by
      unfold appendR at he
      split at he
      ·split at he
       ·rename_i hobs ho1 ho2
        split at he
        ·obtain ⟨_,he⟩:=cond_some he
         subst he
         have key:∀ {x y:Nat} {nob:Ob},s.obs x≠none→s.obs y≠none→(after s ([x,y].map (fun o=>((o,none):Nat × Option Ob))++[(d,some nob)])).obs d=some (some nob):=by
          intro x y nob hx hy
          rw [after_ids,if_neg,put_same]
          intro hi
          simp only [List.mem_cons,List.not_mem_nil,or_false] at hi
          rcases hi with rfl | rfl
          ·exact hx hobs
          ·exact hy hobs
         exact ⟨_,key (by rw [ho1];simp) (by rw [ho2];simp),rfl⟩
        ·cases he
       ·cases he
      ·cases he
     obtain ⟨ob,hobd,h0⟩:=hobd
     simp only [AVRep,hobd]
     refine ⟨0,h0,Nat.le_refl _,fun _=>?_⟩
     rw [h4,List.getElem?_append_right (by rw [hl];simp [Z.nat,Z.len])]
     simpa [hl,Z.nat,Z.len] using r3
    ·cases he
   ·cases he
  ·cases he
 ·cases he
theorem vcSeq_sound (hgo:guardsOk ops=true) {G:ASt→Prop} {KP:Nat→Prop}:∀ {l:List Oper} {K:Ctx} {k:Nat} {s:ASt} {a:Act} {w:World} {β:Nat→Loc},CxOk K.P cx→Fit K cx→FixO K ops→(∀ j,l[j]?=ops[k+j]?)→vcSeq cx ops l s G KP→RelB K s a w β→GInv ops (fun j=>j<k) s →
  (∀ M s' a' w' β',(cx.yl=none→M=K.Mg)→RelB (K.mg M) s' a' w' β'→NoG s'→G s'→Q .normal a' w')→(∀ M T a' w' β',(cx.yl=none→M=K.Mg)→RelB (K.mg M) goneAll a' w' β'→KP T→Q (.panic (pch T)) a' w')→PJ K Q→wpListIn (FF K.P r) n K.P ops Q l a w
 | [],K,k,s,a,w,β,_,_,_,_,hr,h,_,hQ,_,_=>hQ K.Mg _ a w β (fun _=>rfl) (h.bare:RelB K s.bare a w β) (NoG.bare _) hr
 | o::l,K,k,s,a,w,β,hcx,hf,hfx,hl,hv,h,hG,hQ,hQP,hj=>by
  have hk:ops[k]?=some o:=by simpa using (hl 0).symm
  have hDj:∀ j b,guardAt ops k=some (j,b)→j<k:=fun j b hj=>(guards_fact hgo hj).1
  have hnext:∀ j,l[j]?=ops[k+1+j]?:=fun j=>by
   have:=hl (j+1)
   simp only [List.getElem?_cons_succ] at this
   rw [this];congr 1;omega
  have go:∀ {g e},chain s ops o=some g→GInv ops (fun j=>j<k+1) (s.app o.dst g e):=by
   intro g e hch
   have hform:=(chain_fact h hch).2
   have hG':=gInv_app (e:=e) hgo hG hk (Nat.lt_irrefl k) hDj hform
   intro t x hx
   obtain ⟨j,hj,rest⟩:=hG' t x hx
   exact ⟨j,by rcases hj with hj | hj<;>omega,rest⟩
  simp only [vcSeq] at hv
  split at hv
  ·exact hv.elim
  ·rename_i g hch
   split at hv
   ·-- a call that is carried out in place
    rename_i hch i li hi
    cases hnt:(ntOk cx.nt o.dst&&noYl cx.yl) with
    | false=>rw [hnt] at hv;exact hv.elim
    | true =>
     rw [hnt] at hv
     simp only [cond_true] at hv
     simp only [Bool.and_eq_true] at hnt
     obtain ⟨hnt,hny⟩:=hnt
     have hyl:cx.yl=none:=by
      cases hy:cx.yl with
      | none=>rfl
      | some _=>rw [hy] at hny;cases hny
     have hJt:∀ g G M w,K.J g G M w:=by have:=hf.yl;rw [hyl] at this;exact this.1
     have hw:Region.wanted o (yielded ops a.tmps)=true:=(chain_fact h hch).1.2 (fun x hx=>by cases hx)
     show if Region.wanted o (yielded ops a.tmps) then _ else _
     rw [if_pos hw]
     refine inl_sound hcx hJt h (fun x hx=>by cases hx) hi hv ?_
     intro v obs' u w' β' hv' h1 h2
     have hgi:GInv ops (fun j=>j<k+1) (putEnv (i.st s obs') o.dst v):=by
      have hst:GInv ops (fun j=>j<k+1) (i.st s obs'):=by
       intro t x hx
       have hx:x∈(cond ((s.env t).v.noPtr s) (s.env t) ⟨[],.un⟩).g:=hx
       cases hb:(s.env t).v.noPtr s with
       | true =>
        rw [hb] at hx
        obtain ⟨j,hj,rest⟩:=hG t x hx
        exact ⟨j,Nat.lt_succ_of_lt hj,rest⟩
       | false=>rw [hb] at hx;cases hx
      cases hd:o.dst with
      | none=>exact hst
      | some d =>
       intro t x hx
       simp only [putEnv] at hx
       by_cases e:t=d
       ·subst e;rw [put_same] at hx;cases hx
       ·rw [put_other _ _ e] at hx;exact hst t x hx
     have hstep:RelB K (putEnv (i.st s obs') o.dst v) (a.put o.dst u) w' β':=by
      cases hd:o.dst with
      | none=>rw [put_none];exact h1
      | some d =>
       rw [hd] at hnt
       have hdn:d<K.nt:=by rw [←hf.nt];exact Nat.le_of_ble_eq_true hnt
       refine h1.slot (d:=d) (v:=u) (e:=⟨[],v⟩) hdn (hfx k o d hk hd) ?_ (fun x hx=>by cases hx) ⟨fun _=>h2,fun hh=>absurd (fun x hx=>by cases hx) hh⟩
       intro t x hx
       have hx:x∈(cond ((s.env t).v.noPtr s) (s.env t) ⟨[],.un⟩).g:=hx
       cases hb:(s.env t).v.noPtr s with
       | true=>rw [hb] at hx;exact dst_fresh hgo hG hk (Nat.lt_irrefl k) hd t x hx
       | false=>rw [hb] at hx;cases hx
     exact vcSeq_sound (K:=K) hgo (k:=k+1) hcx hf hfx hnext hv' hstep hgi hQ hQP hj
   ·-- the same,under guards
    rename_i y g i li hi
    cases hnt:((ntOk cx.nt o.dst&&noYl cx.yl)&&stillOk cx s (y::g) o) with
    | false=>rw [hnt] at hv;exact hv.elim
    | true =>
     rw [hnt] at hv
     simp only [cond_true] at hv
     simp only [Bool.and_eq_true] at hnt
     obtain ⟨⟨hnt,hny⟩,hst⟩:=hnt
     have hyl:cx.yl=none:=by
      cases hy:cx.yl with
      | none=>rfl
      | some _=>rw [hy] at hny;cases hny
     have hJt:∀ g G M w,K.J g G M w:=by have:=hf.yl;rw [hyl] at this;exact this.1
     obtain ⟨hv1,hv2⟩:=hv
     obtain ⟨hw,hform⟩:=chain_fact h hch
     have hfr:=g_fresh hgo hG hk (Nat.lt_irrefl k) hDj hform
     have hfresh:∀ d,o.dst=some d→∀ x∈y::g,x.1≠d:=by
      intro d hd x hx hxd
      obtain ⟨j,hj,hdj,i',b,hi'⟩:=hfr x hx
      obtain ⟨_,t',ht',hu⟩:=guards_fact hgo hi'
      rw [hdj] at ht'
      cases ht'
      have:dstAt ops k=some x.1:=by unfold dstAt;rw [hk,hxd];exact hd
      have:=hu k this
      omega
     show if Region.wanted o (yielded ops a.tmps) then _ else _
     by_cases hwt:Region.wanted o (yielded ops a.tmps)=true
     ·rw [if_pos hwt]
      have hg:=hw.1 hwt
      refine inl_sound hcx hJt h hg hi (hv1 (by unfold gYes;split;exact hold_cond h hg (fun x hx=>hx) _ ‹_›;trivial)) ?_
      intro v obs' u w' β' hv' h1 h2
      have hgi:GInv ops (fun j=>j<k+1) (putEnv (i.st s obs') o.dst v):=by
       have hst:GInv ops (fun j=>j<k+1) (i.st s obs'):=by
        intro t x hx
        have hx:x∈(cond ((s.env t).v.noPtr s) (s.env t) ⟨[],.un⟩).g:=hx
        cases hb:(s.env t).v.noPtr s with
        | true =>
         rw [hb] at hx
         obtain ⟨j,hj,rest⟩:=hG t x hx
         exact ⟨j,Nat.lt_succ_of_lt hj,rest⟩
        | false=>rw [hb] at hx;cases hx
       cases hd:o.dst with
       | none=>exact hst
       | some d =>
        intro t x hx
        simp only [putEnv] at hx
        by_cases e:t=d
        ·subst e;rw [put_same] at hx;cases hx
        ·rw [put_other _ _ e] at hx;exact hst t x hx
      have hstep:RelB K (putEnv (i.st s obs') o.dst v) (a.put o.dst u) w' β':=by
       cases hd:o.dst with
       | none=>rw [put_none];exact h1
       | some d =>
        rw [hd] at hnt
        have hdn:d<K.nt:=by rw [←hf.nt];exact Nat.le_of_ble_eq_true hnt
        refine h1.slot (d:=d) (v:=u) (e:=⟨[],v⟩) hdn (hfx k o d hk hd) ?_ (fun x hx=>by cases hx) ⟨fun _=>h2,fun hh=>absurd (fun x hx=>by cases hx) hh⟩
        intro t x hx
        have hx:x∈(cond ((s.env t).v.noPtr s) (s.env t) ⟨[],.un⟩).g:=hx
        cases hb:(s.env t).v.noPtr s with
        | true=>rw [hb] at hx;exact dst_fresh hgo hG hk (Nat.lt_irrefl k) hd t x hx
        | false=>rw [hb] at hx;cases hx
      exact vcSeq_sound (K:=K) hgo (k:=k+1) hcx hf hfx hnext hv' hstep hgi hQ hQP hj
     ·rw [if_neg hwt]
      have hng:¬ Hold a (y::g):=fun hg=>hwt (hw.2 hg)
      refine ⟨still_about hcx h hst hng,?_⟩
      have hstep:RelB K (s.app o.dst (y::g) ⟨none,.s (.d .bo false),[],[]⟩) (a.put o.dst undef) w β:=by
       cases hd:o.dst with
       | none =>
        rw [put_none];exact h
       | some d =>
        rw [hd] at hnt
        have hdn:d<K.nt:=by rw [←hf.nt];exact Nat.le_of_ble_eq_true hnt
        have:=h.slot (d:=d) (v:=undef) (e:=⟨y::g,.s (.d .bo false)⟩) hdn (hfx k o d hk hd) (dst_fresh hgo hG hk (Nat.lt_irrefl k) hd) (hfresh d hd) ⟨fun hh=>absurd hh hng,fun _=>rfl⟩
        exact this
      exact vcSeq_sound (K:=K) hgo (k:=k+1) hcx hf hfx hnext (hv2 (not_hold h hng)) hstep (go hch) hQ hQP hj
   rename_i g hch _ _ _
   split at hv
   ·-- a call that may panic
    rename_i hch p hp _ _
    cases hnt:(ntOk cx.nt o.dst&&noYl cx.yl) with
    | false=>rw [hnt] at hv;exact hv.elim
    | true =>
     rw [hnt] at hv
     simp only [cond_true] at hv
     simp only [Bool.and_eq_true] at hnt
     obtain ⟨hnt,hny⟩:=hnt
     have hyl:cx.yl=none:=by
      cases hy:cx.yl with
      | none=>rfl
      | some _=>rw [hy] at hny;cases hny
     have hJt:∀ g G M w,K.J g G M w:=by have:=hf.yl;rw [hyl] at this;exact this.1
     obtain ⟨hob,hv1,hv2⟩:=hv
     have hw:Region.wanted o (yielded ops a.tmps)=true:=(chain_fact h hch).1.2 (fun x hx=>by cases hx)
     show if Region.wanted o (yielded ops a.tmps) then _ else _
     rw [if_pos hw]
     refine pan_sound hcx h hp (fun r hr=>by rw [hr] at hob;exact hob) (fun hb w' hrel=>hQP K.Mg p.T a w' β (fun _=>rfl) (hrel hJt) (hv2 hb)) ?_
     intro hb v w' β' h1 h2
     have hstep:RelB K (s.app o.dst [] p.e) (a.put o.dst v) w' β':=by
      cases hd:o.dst with
      | none =>
       rw [put_none]
       have:s.app none [] p.e=after s p.e.wr:=rfl
       rw [this];exact h1
      | some d =>
       rw [hd] at hnt
       have hdn:d<K.nt:=by rw [←hf.nt];exact Nat.le_of_ble_eq_true hnt
       have:=h1.slot (d:=d) (v:=v) (e:=⟨[],p.e.av⟩) hdn (hfx k o d hk hd) (dst_fresh hgo hG hk (Nat.lt_irrefl k) hd) (fun x hx=>by cases hx) ⟨fun _=>h2,fun hh=>absurd (fun x hx=>by cases hx) hh⟩
       exact this
     exact vcSeq_sound (K:=K) hgo (k:=k+1) hcx hf hfx hnext (hv1 hb) hstep (go hch) hQ hQP hj
   rename_i g hch _ _ _
   split at hv
   ·-- a row that becomes part of a row of rows
    rename_i e t v _ _ _ _
    have hal:=‹aliEff cx s o=some _›
    cases hnt:(ntOk cx.nt o.dst&&ntOk cx.nt (some t)) with
    | false=>rw [hnt] at hv;exact hv.elim
    | true =>
     rw [hnt] at hv
     simp only [cond_true] at hv
     simp only [Bool.and_eq_true] at hnt
     obtain ⟨hnt,_⟩:=hnt
     obtain ⟨hob,hv⟩:=hv
     have hw:Region.wanted o (yielded ops a.tmps)=true:=(chain_fact h hch).1.2 (fun x hx=>by cases hx)
     show if Region.wanted o (yielded ops a.tmps) then _ else _
     rw [if_pos hw]
     obtain ⟨d,hd,hnd,hdt,u,w',β',hrun,h1,h2,h3⟩:=ali_did hcx h hal (fun r hr=>by rw [hr] at hob;exact hob)
     refine wpIn_of_run hnd hrun ?_
     rw [hd] at hnt
     have hdn:d<K.nt:=by rw [←hf.nt];exact Nat.le_of_ble_eq_true hnt
     have hda:d<a.tmps.size:=by rw [h.size];exact hdn
     have hstep:RelB K (s.app o.dst [] e) (a.put o.dst u) w' β':=by
      rw [hd]
      exact h1.slot (d:=d) (v:=u) (e:=⟨[],e.av⟩) hdn (hfx k o d hk hd) (dst_fresh hgo hG hk (Nat.lt_irrefl k) hd) (fun x hx=>by cases hx) ⟨fun _=>h2,fun hh=>absurd (fun x hx=>by cases hx) hh⟩
     have hstep2:RelB K (putEnv (s.app o.dst [] e) (some t) v) (a.put o.dst u) w' β':=by
      refine hstep.reslot (t:=t) ?_
      rw [hd,tmps_put hda,if_neg (fun e=>hdt e.symm)]
      have hobs:(s.app (some d) [] e).obs=(after s e.wr).obs:=rfl
      exact h3.next (.of_obs _ hobs) (.refl _ _)
     refine vcSeq_sound (K:=K) hgo (k:=k+1) hcx hf hfx hnext hv hstep2 ?_ hQ hQP hj
     intro t₁ x hx
     simp only [putEnv] at hx
     by_cases e1:t₁=t
     ·subst e1;rw [put_same] at hx;cases hx
     ·rw [put_other _ _ e1] at hx;exact go hch t₁ x hx
   rename_i g hch _ _ _ _
   split at hv
   ·-- one of the other kind
    rename_i T hT _ _ _
    cases hnt:ntOk cx.nt o.dst with
    | false=>rw [hnt] at hv;exact hv.elim
    | true =>
     rw [hnt] at hv
     simp only [cond_true] at hv
     have hw:Region.wanted o (yielded ops a.tmps)=true:=(chain_fact h hch).1.2 (fun x hx=>by cases hx)
     show if Region.wanted o (yielded ops a.tmps) then _ else _
     rw [if_pos hw]
     refine rel_sound hcx hf h (fun x hx=>by cases hx) ‹relEff cx s [] o=some _› hv ?_ hj
     intro M e v w' β' hMy hq h1 h2
     have hstep:RelB (K.mg M) (s.app o.dst [] e) (a.put o.dst v) w' β':=by
      cases hd:o.dst with
      | none =>
       rw [put_none]
       have:s.app none [] e=after s e.wr:=rfl
       rw [this];exact h1
      | some d =>
       rw [hd] at hnt
       have hdn:d<K.nt:=by rw [←hf.nt];exact Nat.le_of_ble_eq_true hnt
       have:=h1.slot (d:=d) (v:=v) (e:=⟨[],e.av⟩) hdn (hfx k o d hk hd) (dst_fresh hgo hG hk (Nat.lt_irrefl k) hd) (fun x hx=>by cases hx) ⟨fun _=>h2,fun hh=>absurd (fun x hx=>by cases hx) hh⟩
       exact this
     exact vcSeq_sound (K:=K.mg M) hgo (k:=k+1) hcx (hf.mg M) hfx hnext hq hstep (go hch) (fun M' s' a' w' β' hM'=>hQ M' s' a' w' β' (fun e=>(hM' e).trans (hMy e))) (fun M' T a' w' β' hM'=>hQP M' T a' w' β' (fun e=>(hM' e).trans (hMy e))) hj
   ·-- the same,under guards
    rename_i y g T _ _ _ _ hT
    cases hnt:(ntOk cx.nt o.dst&&stillOk cx s (y::g) o) with
    | false=>rw [hnt] at hv;exact hv.elim
    | true =>
     rw [hnt] at hv
     simp only [cond_true] at hv
     simp only [Bool.and_eq_true] at hnt
     obtain ⟨hnt,hst⟩:=hnt
     obtain ⟨hv1,hv2⟩:=hv
     obtain ⟨hw,hform⟩:=chain_fact h hch
     have hfr:=g_fresh hgo hG hk (Nat.lt_irrefl k) hDj hform
     have hfresh:∀ d,o.dst=some d→∀ x∈y::g,x.1≠d:=by
      intro d hd x hx hxd
      obtain ⟨j,hj,hdj,i',b,hi'⟩:=hfr x hx
      obtain ⟨_,t',ht',hu⟩:=guards_fact hgo hi'
      rw [hdj] at ht'
      cases ht'
      have:dstAt ops k=some x.1:=by unfold dstAt;rw [hk,hxd];exact hd
      have:=hu k this
      omega
     show if Region.wanted o (yielded ops a.tmps) then _ else _
     by_cases hwt:Region.wanted o (yielded ops a.tmps)=true
     ·rw [if_pos hwt]
      have hg:=hw.1 hwt
      refine rel_sound hcx hf h hg hT (hv1 (by unfold gYes;split;exact hold_cond h hg (fun x hx=>hx) _ ‹_›;trivial)) ?_ hj
      intro M e v w' β' hMy hq h1 h2
      have hstep:RelB (K.mg M) (s.app o.dst (y::g) e) (a.put o.dst v) w' β':=by
       cases hd:o.dst with
       | none =>
        rw [put_none]
        have:s.app none (y::g) e=after s e.wr:=rfl
        rw [this];exact h1
       | some d =>
        rw [hd] at hnt
        have hdn:d<K.nt:=by rw [←hf.nt];exact Nat.le_of_ble_eq_true hnt
        have:=h1.slot (d:=d) (v:=v) (e:=⟨y::g,e.av⟩) hdn (hfx k o d hk hd) (dst_fresh hgo hG hk (Nat.lt_irrefl k) hd) (hfresh d hd) ⟨fun _=>h2,fun hh=>absurd hg hh⟩
        exact this
      exact vcSeq_sound (K:=K.mg M) hgo (k:=k+1) hcx (hf.mg M) hfx hnext hq hstep (go hch) (fun M' s' a' w' β' hM'=>hQ M' s' a' w' β' (fun e=>(hM' e).trans (hMy e))) (fun M' T a' w' β' hM'=>hQP M' T a' w' β' (fun e=>(hM' e).trans (hMy e))) hj
     ·rw [if_neg hwt]
      have hng:¬ Hold a (y::g):=fun hg=>hwt (hw.2 hg)
      refine ⟨still_about hcx h hst hng,?_⟩
      have hstep:RelB K (s.app o.dst (y::g) ⟨none,.s (.d .bo false),[],[]⟩) (a.put o.dst undef) w β:=by
       cases hd:o.dst with
       | none =>
        rw [put_none];exact h
       | some d =>
        rw [hd] at hnt
        have hdn:d<K.nt:=by rw [←hf.nt];exact Nat.le_of_ble_eq_true hnt
        have:=h.slot (d:=d) (v:=undef) (e:=⟨y::g,.s (.d .bo false)⟩) hdn (hfx k o d hk hd) (dst_fresh hgo hG hk (Nat.lt_irrefl k) hd) (hfresh d hd) ⟨fun hh=>absurd hh hng,fun _=>rfl⟩
        exact this
      exact vcSeq_sound (K:=K) hgo (k:=k+1) hcx hf hfx hnext (hv2 (not_hold h hng)) hstep (go hch) hQ hQP hj
   ·rename_i g _ _ _ _ _ _ _ _
    split at hv
    ·-- a panic
     split at hv
     ·cases hny:noYl cx.yl with
      | false=>rw [hny] at hv;exact hv.elim
      | true =>
       rw [hny,cond_true] at hv
       have hyl:cx.yl=none:=by
        cases hy:cx.yl with
        | none=>rfl
        | some _=>rw [hy] at hny;cases hny
       have hJt:∀ g G M w,K.J g G M w:=by have:=hf.yl;rw [hyl] at this;exact this.1
       have hw:Region.wanted o (yielded ops a.tmps)=true:=(chain_fact h hch).1.2 (fun x hx=>by cases hx)
       show if Region.wanted o (yielded ops a.tmps) then _ else _
       rw [if_pos hw]
       exact panicT_sound h ‹panicT cx s o=some _› (hQP K.Mg _ a w β (fun _=>rfl) (h.gone (Ext.refl _ _) hJt) hv)
     ·exact hv.elim
    ·rename_i e he
     cases hB:(gwOk g e.wr&&ntOk cx.nt o.dst) with
     | false=>rw [hB] at hv;exact hv.elim
     | true =>
      rw [hB] at hv
      simp only [cond_true] at hv
      simp only [Bool.and_eq_true] at hB
      obtain ⟨k1,k2⟩:=hB
      obtain ⟨hob,hv⟩:=hv
      have hgw:g≠[]→e.wr=[]:=by
       intro hne
       cases hww:e.wr with
       | nil=>rfl
       | cons x m=>cases g with
        | nil=>exact absurd rfl hne
        | cons y m=>rw [hww] at k1;cases k1
      refine op_step hcx hf.nt hgo h hG hk (Nat.lt_irrefl k) hDj hch he hgw ?_ (fun d hd=>hfx k o d hk hd) ?_ ?_
      ·intro d hd
       rw [hd] at k2
       exact Nat.le_of_ble_eq_true k2
      ·intro p hp hc
       rw [hp] at hob
       cases hgc:gCond s g with
       | none=>rw [hgc] at hob;exact hob
       | some c=>rw [hgc] at hob;exact hob (hc c hgc)
      ·intro a' w' β' hrel
       exact vcSeq_sound (K:=K) hgo (k:=k+1) hcx hf hfx hnext hv hrel (go hch) hQ hQP hj
end
end Go.Sx
/-
 The symbolic layer,part 22: pieces of code.
-/
namespace Go.Sx
section
variable {F:Fence} {n:Nat} {P:Program} {Q:Exit→Act→World→Prop} {a:Act} {w:World} {b:Frame} {k:List Item} {cs:List Frame}
theorem stepR_scope {c:Code}:step P (lone (b.atR a (.code (.scope c)::k)) cs w)=.next (lone (b.atR a (.code c::.inScope c::k)) cs w) :=
 step_lone_go (by simp [stepG,stepG.exec,Frame.atR])
theorem stepR_inScope {c:Code}:step P (lone (b.atR a (.inScope c::k)) cs w)=.next (lone (b.atR a k) cs w) :=
 step_lone_go (by simp [stepG,stepG.exec,Frame.atR])
theorem wpIn_scope {c:Code} (h:c.wpIn F n P (Exit.noGoto Q) a w):(Code.scope c).wpIn F n P Q a w:=by
 intro b k cs hro hb hr
 have h0:(lone (b.atR a (.code (.scope c)::k)) cs w).fenced P F:=fenced_calm hb hr rfl
 obtain ⟨e,a₁,w₁,hq,harr⟩:=h b (.inScope c::k) cs hro hb hr
 cases e with
 | normal=>exact ⟨.normal,a₁,w₁,hq,.head h0 stepR_scope (StepsIn.trans harr (.one (fenced_calm hb hr rfl) stepR_inScope))⟩
 | exit id =>
  have hx:exitTo id (.inScope c::k)=exitTo id k:=by simp [exitTo]
  exact ⟨.exit id,a₁,w₁,hq,fun k' hk=>.head h0 stepR_scope (harr.1 k' (by rw [hx];exact hk)),
   fun hr' hk=>let ⟨k₁,h1,h2⟩:=harr.2 hr' (by rw [hx];exact hk);⟨k₁,h1,.head h0 stepR_scope h2⟩⟩
 | goto l=>exact hq.elim
 | ret=>exact ⟨_,a₁,w₁,hq,.of_steps (.one h0 stepR_scope) harr⟩
 | panic ch=>exact ⟨_,a₁,w₁,hq,.of_steps (.one h0 stepR_scope) harr⟩
 | outgrown=>exact ⟨_,a₁,w₁,hq,.of_steps (.one h0 stepR_scope) harr⟩
end
section
variable {K:Ctx} {s:ASt} {a:Act} {w:World} {β:Nat→Loc} {cx:Cx} {r:Option Nat} {n:Nat} {Q:Exit→Act→World→Prop} {ops:Array Oper}
theorem draw_sound (hcx:CxOk K.P cx) (hnt:cx.nt=K.nt) (hfx:FixO K ops) (hmx:K.P.follows .mixedOrders=true) (hgo:guardsOk ops=true) {m:Nat} (hms:m≤ops.size) {R:Run} (hd:drawOk m ops R.feet=true) {id:Nat} (hR:runOps cx ops (ops.toList.take m) s=some R) (hob:∀ p∈R.obls,p) (h:RelB K s a w β) (hn:NoG s)
  (hQ:∀ a' w' β',RelB K R.s a' w' β'→GInv ops (fun j=>j<m) R.s→wpListIn (FF K.P r) n K.P ops Q (ops.toList.drop m) a' w'):(Code.region id ops true).wpIn (FF K.P r) n K.P Q a w:=by
 obtain ⟨ds,d1,d2,d3⟩:=ran_of hR hob
 obtain ⟨g1,_⟩:=h.grow (w':={ w with drawn:=w.drawn+1 }) ⟨Nat.le_refl _,fun _ _ _=>rfl,rfl,rfl⟩
 have hnone:∀ j,(Array.replicate ops.size false).getD j false=false:=by
  intro j
  rw [Array.getD_eq_getD_getElem?,Array.getElem?_replicate]
  split<;>rfl
 have e0:st (fun j=>(Array.replicate ops.size false).getD j false) 0 ds s=s:=st_none fun j _=>hnone _
 have hdf:=drawF_of hd
 refine wpIn_region_any hmx (any_sound hcx hnt hfx hgo hms d1 d2 hdf (fun fuel listed a' w' β' hsz hfu hl hh hG=>?_) ops.size _ a _ β (by simp) ?_ ?_ ?_ (by rw [e0];exact g1) (by rw [e0];exact hn.inv _))
 ·rw [←d3] at hh hG
  refine any_of_list hdf fuel m listed a' w' (Nat.le_refl _) hms hsz ?_ hl (hQ a' w' β' hh hG)
  have hc:((List.range ops.size).filter fun j=>decide (m≤j)).length≤((List.range ops.size).filter fun j=>!listed.getD j false).length:=by
   have e:((List.range ops.size).filter fun j=>decide (m≤j))=((List.range ops.size).filter fun j=>!listed.getD j false):=List.filter_congr fun j _=>by
    by_cases hj:j<m
    ·rw [(hl j).2 hj];simp;omega
    ·have:listed.getD j false=false:=by
      cases hx:listed.getD j false with
      | false=>rfl
      | true=>exact absurd ((hl j).1 hx) hj
     rw [this];simp;omega
   rw [e];exact Nat.le_refl _
  have hk:∀ n:Nat,m≤n→((List.range n).filter fun j=>decide (m≤j)).length=n - m:=by
   intro n hmn
   induction n with
   | zero=>simp
   | succ n ih =>
    rw [List.range_succ,List.filter_append]
    by_cases he:m≤n
    ·have:=ih he
     simp [he,this];omega
    ·have:m=n+1:=by omega
     have hz:(List.range n).filter (fun j=>decide (m≤j))=[]:=List.filter_eq_nil_iff.2 fun j hj=>by
      have:=List.mem_range.1 hj
      simp;omega
     simp [hz,he];omega
  have:=hk ops.size hms
  omega
 ·exact Nat.le_trans (List.length_filter_le _ _) (by simp)
 ·intro j hj
  rw [hnone] at hj;cases hj
 ·intro j hj
  rw [hnone] at hj;cases hj
theorem region_sound (hcx:CxOk K.P cx) (hnt:cx.nt=K.nt) (hfx:FixO K ops) (hm:K.P.follows .mixedOrders=true) {id:Nat} {draw:Bool} {G:ASt→Prop} (hv:vcRegion cx ops draw s G) (h:RelB K s a w β) (hn:NoG s)
  (hQ:∀ s' a' w' β',RelB K s' a' w' β'→NoG s'→G s'→Q .normal a' w'):(Code.region id ops draw).wpIn (FF K.P r) n K.P Q a w:=by
 cases draw with
 | false=>exact region_seq hcx hnt hfx hv h hn hQ
 | true =>
  unfold vcRegion at hv
  split at hv
  ·exact hv.elim
  ·rename_i R hR
   cases hc:(guardsOk ops&&(!true||drawOk ops.size ops R.feet)) with
   | false=>rw [hc] at hv;exact hv.elim
   | true =>
    rw [hc] at hv
    simp only [Bool.not_true,Bool.false_or,Bool.and_eq_true] at hc
    obtain ⟨h1,h2⟩:=conj_all hv
    have hR':runOps cx ops (ops.toList.take ops.size) s=some R:=by rw [List.take_of_length_le (by simp)];exact hR
    refine draw_sound hcx hnt hfx hm hc.1 (Nat.le_refl _) hc.2 hR' h1 h hn fun a' w' β' hh hG=>?_
    rw [List.drop_eq_nil_of_le (by simp)]
    exact hQ _ a' w' β' hh.bare (NoG.bare _) h2
def Post (K:Ctx) (cx:Cx) (M:Nat→Prop) (Q:Exit→ASt→Prop) (Qm:Exit→Act→World→Prop):Prop :=
 ∀ M',(cx.yl=none→M'=M)→∀ e s a w β,Q e s→RelB (K.mg M') s a w β→NoG s→Qm e a w
theorem Post.to {M M':Nat→Prop} {Q:Exit→ASt→Prop} {Qm:Exit→Act→World→Prop} (h:Post K cx M Q Qm) (hM:cx.yl=none→M'=M):Post K cx M' Q Qm:=fun M'' hM''=>h M'' fun e=>(hM'' e).trans (hM e)
def RFit (K:Ctx):Option Nat→Prop
 | none=>True
 | some l=>∃ r:Loop,(l,Obj.loop r)∈K.pins
def FixC (K:Ctx) (c:Code):Prop:=∀ t∈Code.dsts c,K.fix t=none
def Sound (K:Ctx) (cx:Cx) (r:Option Nat) (n:Nat) (c:Code):Prop :=
 RFit K r→FixC K c→∀ (M:Nat→Prop) (Q:Exit→ASt→Prop) (Qm:Exit→Act→World→Prop) (s:ASt) (a:Act) (w:World) (β:Nat→Loc),vc cx c s Q→RelB (K.mg M) s a w β→NoG s→Post K cx M Q Qm→PJ K Qm→c.wpIn (FF K.P r) n K.P Qm a w
def LoopRule (cx:Cx):Prop :=
 ∀ (K:Ctx) (r:Option Nat) (n:Nat) (c:Code),CxOk K.P cx→Fit K cx→Sound K cx r n c→Sound K cx r n (.loop c)
def RangeRule (cx:Cx):Prop :=
 ∀ (K:Ctx) (r:Option Nat) (n:Nat) (g:Operand) (ps:Array Nat) (x y:Code),CxOk K.P cx→Fit K cx →
  (∀ (K:Ctx) (r:Option Nat) (n:Nat),CxOk K.P cx→Fit K cx→Sound K cx r n x)→(∀ (K:Ctx) (r:Option Nat) (n:Nat),CxOk K.P cx→Fit K cx→Sound K cx r n y)→Sound K cx r n (.rangeFunc g ps x y)
theorem fixO_of {id:Nat} {ops:Array Oper} {d:Bool} (h:FixC K (.region id ops d)):FixO K ops:=fun i o x hi hx=>h x (List.mem_filterMap.2 ⟨o,by simpa using Array.mem_of_getElem? hi,hx⟩)
theorem vc_sound (hloop:LoopRule cx) (hrange:RangeRule cx):∀ (c:Code) (K:Ctx) (r:Option Nat) (n:Nat),CxOk K.P cx→Fit K cx→Sound K cx r n c:=by
 intro c
 induction c with
 | skip=>intro K r n hcx hf hr hx M Q Qm s a w β hv h hn hp hj;exact wpIn_skip (hp M (fun _=>rfl) _ _ _ _ _ hv h hn)
 | region id ops d =>
  intro K r n hcx hf hr hx M Q Qm s a w β hv h hn hp hj
  simp only [vc] at hv
  cases hc:mayRel cx ops with
  | false =>
   rw [hc] at hv
   exact region_sound (K:=K.mg M) hcx hf.nt (fixO_of hx) hf.mixed hv h hn fun s' a' w' β' h1 h2 h3=>hp M (fun _=>rfl) _ _ _ _ _ h3 h1 h2
  | true =>
   rw [hc] at hv
   cases d with
   | true =>
    simp only [cond_true] at hv
    generalize relAt cx ops ops.toList s=m at hv
    unfold vcDraw at hv
    split at hv
    ·exact hv.elim
    rename_i R hR
    cases hd:(guardsOk ops&&(Nat.ble m ops.size&&drawOk m ops R.feet)) with
    | false=>rw [hd] at hv;exact hv.elim
    | true =>
     rw [hd,cond_true] at hv
     simp only [Bool.and_eq_true] at hd
     obtain ⟨hg,hms,hdr⟩:=hd
     have hms:=Nat.le_of_ble_eq_true hms
     obtain ⟨h1,h2⟩:=conj_all hv
     refine draw_sound (K:=K.mg M) hcx hf.nt (fixO_of hx) hf.mixed hg hms hdr hR h1 h hn fun a' w' β' hh hG=>?_
     exact vcSeq_sound (K:=K.mg M) hg (k:=m) hcx (hf.mg M) (fixO_of hx) (fun j=>by simp) h2 hh hG (fun M' s' a' w' β' hM h1 h2 h3=>hp M' hM _ _ _ _ _ h3 h1 h2) (fun M' T a' w' β' hM h1 h2=>hp M' hM _ _ _ _ _ h2 h1 fun _=>rfl) hj
   | false =>
   simp only [cond_true,cond_false] at hv
   cases hg:guardsOk ops with
   | false=>rw [hg] at hv;exact hv.elim
   | true =>
    rw [hg] at hv
    exact wpIn_region_list (vcSeq_sound (K:=K.mg M) hg (k:=0) hcx (hf.mg M) (fixO_of hx) (fun j=>by simp) hv h (hn.inv _) (fun M' s' a' w' β' hM h1 h2 h3=>hp M' hM _ _ _ _ _ h3 h1 h2) (fun M' T a' w' β' hM h1 h2=>hp M' hM _ _ _ _ _ h2 h1 fun _=>rfl) hj)
 | seq x y ihx ihy =>
  intro K r n hcx hf hr hx M Q Qm s a w β hv h hn hp hj
  refine wpIn_seq (ihx K r n hcx hf hr (fun t ht=>hx t (List.mem_append.2 (.inl ht))) M _ _ s a w β hv h hn ?_ fun ch a w h1 h2=>hj ch a w h1 h2)
  intro M' hM e s' a' w' β' hq h' hn'
  cases e with
  | normal=>exact ihy K r n hcx hf hr (fun t ht=>hx t (List.mem_append.2 (.inr ht))) M' Q Qm s' a' w' β' hq h' hn' (hp.to hM) hj
  | _=>exact hp M' hM _ _ _ _ _ hq h' hn'
 | cond c x y ihx ihy =>
  intro K r n hcx hf hr hx M Q Qm s a w β hv h hn hp hj
  simp only [vc] at hv
  split at hv
  ·rename_i b hb
   have hc:=ev_rep (cx:=cx) h (g:=[]) (fun x hx=>by cases hx) 0 c
   rw [asB_eq hb] at hc
   refine wpIn_cond_split (bool_val hc) (fun ht=>ihx K r n hcx hf hr (fun t ht=>hx t (List.mem_append.2 (.inl ht))) M Q Qm s a w β (hv.1 ht) h hn hp hj) (fun ht=>ihy K r n hcx hf hr (fun t ht=>hx t (List.mem_append.2 (.inr ht))) M Q Qm s a w β (hv.2 ht) h hn hp hj)
  ·exact hv.elim
 | block id x ih =>
  intro K r n hcx hf hr hx M Q Qm s a w β hv h hn hp hj
  refine wpIn_block (ih K r n hcx hf hr hx M _ _ s a w β hv h hn ?_ fun ch a w h1 h2=>hj ch a w h1 h2)
  intro M' hM e s' a' w' β' hq h' hn'
  cases e with
  | exit i =>
   simp only [Exit.inBlock]
   cases hi:Nat.beq i id with
   | true =>
    simp only [hi,cond_true] at hq
    rw [if_pos (Nat.eq_of_beq_eq_true hi)]
    exact hp M' hM _ _ _ _ _ hq h' hn'
   | false =>
    simp only [hi,cond_false] at hq
    rw [if_neg (fun e=>by subst e;rw [Nat.beq_refl] at hi;cases hi)]
    exact hp M' hM _ _ _ _ _ hq h' hn'
  | _=>exact hp M' hM _ _ _ _ _ hq h' hn'
 | loop x ih=>intro K r n hcx hf;exact hloop K r n x hcx hf (ih K r n hcx hf)
 | exit id=>intro K r n hcx hf hr hx M Q Qm s a w β hv h hn hp hj;exact wpIn_exit (hp M (fun _=>rfl) _ _ _ _ _ hv h hn)
 | scope x ih =>
  intro K r n hcx hf hr hx M Q Qm s a w β hv h hn hp hj
  refine wpIn_scope (ih K r n hcx hf hr hx M _ _ s a w β hv h hn ?_ fun ch a w h1 h2=>hj ch a w h1 h2)
  intro M' hM e s' a' w' β' hq h' hn'
  cases e with
  | goto l=>exact hq
  | _=>exact hp M' hM _ _ _ _ _ hq h' hn'
 | label l=>intro K r n hcx hf hr hx M Q Qm s a w β hv h hn hp hj;exact wpIn_label (hp M (fun _=>rfl) _ _ _ _ _ hv h hn)
 | ret=>intro K r n hcx hf hr hx M Q Qm s a w β hv h hn hp hj;exact wpIn_ret (hp M (fun _=>rfl) _ _ _ _ _ hv h hn)
 | rangeFunc g ps x y ihx ihy=>intro K r n hcx hf;exact hrange K r n g ps x y hcx hf ihx ihy
 | _=>intro K r n hcx hf hr hx M Q Qm s a w β hv h hn hp hj;exact hv.elim
end
end Go.Sx
/-
 The symbolic layer,part 23: what a piece of code leaves alone;loops.
-/
namespace Go.Sx
section
variable {cx:Cx} {ops:Array Oper}
def Fr (cx:Cx) (ds:List Nat) (s s':ASt):Prop:=∀ t,t∉ds→s'.env t=s.env t∨s'.env t=⟨[],.un⟩∨∃ d∈ds,cx.ali d=some t
theorem Fr.refl (ds:List Nat) (s:ASt):Fr cx ds s s:=fun _ _=>.inl rfl
theorem Fr.trans {ds ds':List Nat} {s s' s'':ASt} (h:Fr cx ds s s') (h':Fr cx ds' s' s''):Fr cx (ds++ds') s s'':=by
 intro t ht
 simp only [List.mem_append,not_or] at ht
 rcases h' t ht.2 with h2 | h2 | ⟨d,h2,h3⟩
 ·rw [h2]
  rcases h t ht.1 with h1 | h1 | ⟨d,h1,h3⟩
  ·exact .inl h1
  ·exact .inr (.inl h1)
  ·exact .inr (.inr ⟨d,List.mem_append.2 (.inl h1),h3⟩)
 ·exact .inr (.inl h2)
 ·exact .inr (.inr ⟨d,List.mem_append.2 (.inr h2),h3⟩)
theorem Fr.mono {ds ds':List Nat} {s s':ASt} (h:Fr cx ds s s') (hs:∀ t∈ds,t∈ds'):Fr cx ds' s s':=fun t ht=>(h t fun h'=>ht (hs t h')).imp id (Or.imp id fun ⟨d,h1,h2⟩=>⟨d,hs d h1,h2⟩)
theorem runOps_env:∀ {l:List Oper} {s:ASt} {R:Run},runOps cx ops l s=some R→∀ t,t∉l.filterMap (·.dst)→R.s.env t=s.env t
 | [],s,R,h,t,_=>by simp only [runOps,Option.some.injEq] at h;subst h;rfl
 | o::l,s,R,h,t,ht=>by
  obtain ⟨g,e,R',_,_,_,_,h5,h6,_⟩:=runOps_cons h
  have hne:o.dst≠some t:=fun hd=>ht (List.mem_filterMap.2 ⟨o,List.mem_cons_self,hd⟩)
  have ht':t∉l.filterMap (·.dst):=fun h'=>by
   obtain ⟨o',ho',hd⟩:=List.mem_filterMap.1 h'
   exact ht (List.mem_filterMap.2 ⟨o',List.mem_cons_of_mem _ ho',hd⟩)
  rw [h6,runOps_env h5 t ht',app_env,if_neg hne]
theorem conj_mono {p q:Prop} (h:p→q):∀ {l:List Prop},conj l p→conj l q
 | [],hp=>h hp
 | _::_,hp=>⟨hp.1,conj_mono h hp.2⟩
theorem bare_fr {ds:List Nat} {s s':ASt} (h:∀ t,t∉ds→s'.env t=s.env t):Fr cx ds s s'.bare:=by
 intro t ht
 simp only [ASt.bare]
 split
 ·exact .inl (h t ht)
 ·exact .inr (.inl rfl)
theorem spread_fr {ds:List Nat}:∀ {sl:List (Nat × Bool)} {ob:List Nat} {hs:List Shp} {x:Shps hs} {s:ASt},(∀ y∈sl,y.1∈ds)→∀ t,t∉ds→(spread s sl ob hs x).env t=s.env t:=by
 have slot:∀ (s:ASt) (t:Nat) (h:Shp) (x:h.D),t∈ds→∀ t',t'∉ds→(putSlot s t h x).env t'=s.env t':=by
  intro s t h x ht t' ht'
  cases h<;>first | exact put_other _ _ (fun e=>ht' (e▸ht)) | rfl
 have obj:∀ (s:ASt) (o:Nat) (h:Shp) (x:h.D),(putObj s o h x).env=s.env:=by
  intro s o h x;cases h<;>rfl
 intro sl ob hs
 induction hs generalizing sl ob with
 | nil=>intro x s _ t _;rcases sl with _ | ⟨y,_ | ⟨y',sl⟩⟩<;>rcases ob with _ | ⟨o,_ | ⟨o',ob⟩⟩<;>rfl
 | cons h hs ih =>
  intro x s hsl t ht
  cases hs with
  | nil =>
   match sl,ob with
   | [],[]=>rfl
   | [(t',r)],[]=>exact slot _ _ _ _ (hsl _ List.mem_cons_self) t ht
   | [],[o]=>exact congrFun (obj _ _ _ _) t
   | (t',r)::y::sl,ob=>rfl
   | [(t',r)],o::ob=>rfl
   | [],o::o'::ob=>rfl
  | cons h' hs =>
   match sl,ob with
   | [],[]=>rfl
   | (t',r)::sl,ob =>
    have e:spread s ((t',r)::sl) ob (h::h'::hs) x=putSlot (spread s sl ob (h'::hs) x.2) t' h x.1:=by
     cases sl<;>cases ob<;>rfl
    rw [e,slot _ _ _ _ (hsl _ List.mem_cons_self) t ht]
    exact ih (fun y hy=>hsl y (List.mem_cons_of_mem _ hy)) t ht
   | [],o::ob =>
    have e:spread s [] (o::ob) (h::h'::hs) x=putObj (spread s [] ob (h'::hs) x.2) o h x.1:=by
     cases ob<;>rfl
    rw [e,obj]
    exact ih (fun y hy=>by cases hy) t ht
theorem annOk_slots {yl:Option YInfo} {a:LoopAnn} {ds:List Nat} (h:annOk yl a ds=true):∀ y∈a.slots,y.1∈ds:=by
 simp only [annOk,Bool.and_eq_true,List.all_eq_true] at h
 exact fun y hy=>memN_iff.1 (h.2.1 y hy).1
theorem head_fr {yl:Option YInfo} {nt:Nat} {s:ASt} {a:LoopAnn} {ds:List Nat} (h:annOk yl a ds=true) {hs:List Shp} (x:Shps hs):Fr cx ds s (spread (headBase nt s a ds) a.slots a.objs hs x):=by
 intro t ht
 rw [spread_fr (annOk_slots h) t ht]
 simp only [headBase]
 cases (memN t ds||(!(s.env t).v.withinH (a.objs++a.keep)||!Nat.ble (t+1) nt)) with
 | true=>exact .inr (.inl rfl)
 | false=>exact .inl rfl
theorem foldl_rel {α:Type} {f:ASt→α→ASt} {R:ASt→ASt→Prop} (hr:∀ s,R s s) (ht:∀ a b c,R a b→R b c→R a c) (hf:∀ s x,R s (f s x)):∀ (l:List α) (s:ASt),R s (l.foldl f s)
 | [],s=>hr s
 | x::l,s=>ht _ _ _ (hf s x) (foldl_rel hr ht hf l _)
def EnvR (s s':ASt):Prop:=∀ t,s'.env t=s.env t∨s'.env t=⟨[],.un⟩
theorem EnvR.rfl' (s:ASt):EnvR s s:=fun _=>.inl rfl
theorem EnvR.trans (a b c:ASt) (h:EnvR a b) (h':EnvR b c):EnvR a c:=fun t=>by
 rcases h' t with e | e
 ·rcases h t with e' | e'
  ·exact .inl (e.trans e')
  ·exact .inr (e.trans e')
 ·exact .inr e
theorem renAt_env {s:ASt} {L:List Nat} {o p:Nat} {r:Option Nat} {nb nr:Ob}:EnvR s (renAt s L o p r nb nr):=by
 intro t
 simp only [renAt]
 cases (s.env t).v.within L with
 | true=>exact .inl rfl
 | false=>exact .inr rfl
theorem canonK_env {an:LoopAnn} (s:ASt) (o k:Nat):EnvR s (canonK cx an s o k):=by
 unfold canonK
 split
 ·split
  ·split
   ·rw [Bool.cond_eq_ite];split
    ·exact renAt_env
    ·exact .rfl' _
   ·rw [Bool.cond_eq_ite];split
    ·exact renAt_env
    ·exact .rfl' _
   ·rw [Bool.cond_eq_ite];split
    ·exact renAt_env
    ·exact .rfl' _
   ·exact .rfl' _
  ·rw [Bool.cond_eq_ite];split
   ·exact renAt_env
   ·exact .rfl' _
  ·exact .rfl' _
 ·exact .rfl' _
theorem regen_env {an:LoopAnn} {s:ASt} {o e e2:Nat} {t:Ty} {l:List (List t.D)}:EnvR s (regen s an o e e2 t l):=by
 unfold regen
 rw [Bool.cond_eq_ite]
 split
 ·intro t'
  simp only
  cases (s.env t').v.within (canonL s an 199999) with
  | true=>exact .inl rfl
  | false=>exact .inr rfl
 ·exact .rfl' _
theorem canonO_env {an:LoopAnn} (s:ASt) (o:Nat):EnvR s (canonO cx an s o):=by
 unfold canonO
 split
 ·exact regen_env
 ·exact foldl_rel EnvR.rfl' EnvR.trans (fun s k=>canonK_env s o k) _ _
 ·exact .rfl' _
theorem canon_env {an:LoopAnn} (s:ASt):EnvR s (canon cx s an):=by
 unfold canon
 split
 ·refine EnvR.trans s (an.objs.foldl (canonO cx an) s) _ (foldl_rel EnvR.rfl' EnvR.trans (fun s o=>canonO_env s o) _ _) fun t=>?_
  show cond _ _ _=_∨cond _ _ _=_
  cases memN t cx.fgt with
  | true=>exact .inr rfl
  | false=>exact .inl rfl
 ·exact .rfl' _
theorem EnvR.fr {ds:List Nat} {s s':ASt} (h:EnvR s s'):Fr cx ds s s':=fun t _=>(h t).imp id .inl
theorem exitAt_mono {s s' h:ASt} {an:LoopAnn} {ds:List Nat} {G G':ASt→Prop} (hg:annOk cx.yl an ds=true→∀ hs x,G (spread (headBase cx.nt s an ds) [] an.objs hs x)→G' (spread (headBase cx.nt s an ds) [] an.objs hs x)) (he:exitAt cx s s' h an ds G):exitAt cx s s' h an ds G':=by
 revert he
 unfold exitAt
 split
 ·exact id
 ·split
  ·rw [Bool.cond_eq_ite,Bool.cond_eq_ite]
   split
   ·rename_i hc
    simp only [Bool.and_eq_true] at hc
    exact conj_mono (hg hc.1 _ _)
   ·exact id
  ·exact id
theorem relEff_mono {s:ASt} {g:List (Nat × Bool)} {o:Oper} {T:(Eff→Prop)→Prop} (hT:relEff cx s g o=some T) {Q Q':Eff→Prop} (h:∀ e,Q e→Q' e) (hQ:T Q):T Q':=by
 unfold relEff at hT
 split at hT
 ·simp only [Option.some.injEq] at hT
  subst hT
  revert hQ
  unfold nextRel
  split
  ·split
   ·rw [Bool.cond_eq_ite,Bool.cond_eq_ite]
    split
    ·exact fun hQ=>⟨fun k v h1 h2=>h _ (hQ.1 k v h1 h2),fun h1=>h _ (hQ.2 h1)⟩
    ·exact id
   ·exact id
  ·exact id
 ·dsimp only at hT
  rw [Bool.cond_eq_ite] at hT
  split at hT
  ·cases hT
  simp only [Option.some.injEq] at hT
  subst hT
  revert hQ
  unfold lookupRel
  split
  ·split
   ·split
    ·split
     ·rw [Bool.cond_eq_ite,Bool.cond_eq_ite]
      split
      ·exact fun hQ=>⟨fun y hy=>h _ (hQ.1 y hy),h _ hQ.2⟩
      ·exact id
     ·exact id
    ·exact id
   ·exact id
  ·exact id
 ·dsimp only at hT
  split at hT
  ·split at hT
   ·simp only [Option.some.injEq] at hT
    subst hT
    revert hQ
    unfold yieldRel
    split
    ·split
     ·rw [Bool.cond_eq_ite,Bool.cond_eq_ite]
      split
      ·exact fun hQ=>⟨hQ.1,hQ.2.1,h _ hQ.2.2.1,h _ hQ.2.2.2⟩
      ·exact id
     ·exact id
    ·exact id
   ·cases hT
  ·split at hT
   ·simp only [Option.some.injEq] at hT
    subst hT
    revert hQ
    unfold tryRel
    split
    ·split
     ·split
      ·split
       ·rw [Bool.cond_eq_ite,Bool.cond_eq_ite]
        split
        ·exact fun hQ=>⟨hQ.1,fun e=>h _ (hQ.2.1 e),fun e=>h _ (hQ.2.2 e)⟩
        ·exact id
       ·exact id
      ·exact id
     ·exact id
    ·exact id
   ·obtain ⟨_,hT⟩:=cond_opt' hT
    subst hT
    revert hQ
    unfold nzRel
    split
    ·exact fun hQ=>⟨hQ.1,fun e=>h _ (hQ.2.1 e),fun e=>h _ (hQ.2.2 e)⟩
    ·exact id
  ·cases hT
 iterate 2
  ·obtain ⟨_,hT⟩:=cond_opt' hT
   subst hT
   revert hQ
   unfold nilRel
   split
   ·split
    ·exact h _
    ·exact fun hQ=>⟨fun e=>h _ (hQ.1 e),h _ hQ.2⟩
   ·exact h _
   ·exact id
 ·split at hT
  ·cases hT
   revert hQ
   unfold stlRel
   split
   ·exact h _
   ·exact id
  ·cases hT
 ·cases hT
theorem aliEff_slot {s:ASt} {o:Oper} {e:Eff} {t:Nat} {v:AV} (h:aliEff cx s o=some (e,t,v)):∃ d,o.dst=some d∧cx.ali d=some t:=by
 unfold aliEff at h
 split at h
 ·rename_i d hop hd
  split at h
  ·rename_i t' k x ha hp
   split at h
   ·rw [Bool.cond_eq_ite] at h
    split at h
    ·simp only [Option.map_eq_some_iff,Prod.mk.injEq] at h
     obtain ⟨_,_,_,rfl,_⟩:=h
     exact ⟨d,hd,ha⟩
    ·cases h
   ·cases h
  ·cases h
 ·rename_i d hop hd
  split at h
  ·rename_i t' T T' p q ha _ _ _
   split at h
   ·rw [Bool.cond_eq_ite] at h
    split at h
    ·simp only [Option.map_eq_some_iff,Prod.mk.injEq] at h
     obtain ⟨_,_,_,rfl,_⟩:=h
     exact ⟨d,hd,ha⟩
    ·cases h
   ·cases h
  ·cases h
 ·cases h
theorem vcSeq_frame {G G':ASt→Prop} {KP KP':Nat→Prop} (hk:∀ T,KP T→KP' T):∀ {l:List Oper} {s:ASt},vcSeq cx ops l s G KP→(∀ s',G s'→Fr cx (l.filterMap (·.dst)) s s'→G' s')→vcSeq cx ops l s G' KP'
 | [],s,h,hq=>hq _ h (bare_fr fun t _=>rfl)
 | o::l,s,h,hq=>by
  have fr:∀ {g:List (Nat × Bool)} {e:Eff} {s':ASt},Fr cx (l.filterMap (·.dst)) (s.app o.dst g e) s'→Fr cx ((o::l).filterMap (·.dst)) s s':=by
   intro g e s' hf t ht
   have ht':t∉l.filterMap (·.dst):=fun h'=>by
    obtain ⟨o',ho',hd⟩:=List.mem_filterMap.1 h'
    exact ht (List.mem_filterMap.2 ⟨o',List.mem_cons_of_mem _ ho',hd⟩)
   have hne:o.dst≠some t:=fun hd=>ht (List.mem_filterMap.2 ⟨o,List.mem_cons_self,hd⟩)
   rcases hf t ht' with h1 | h1 | ⟨d,h1,h2⟩
   ·rw [app_env,if_neg hne] at h1;exact .inl h1
   ·exact .inr (.inl h1)
   ·refine .inr (.inr ⟨d,?_,h2⟩)
    obtain ⟨o',ho',hd'⟩:=List.mem_filterMap.1 h1
    exact List.mem_filterMap.2 ⟨o',List.mem_cons_of_mem _ ho',hd'⟩
  have frI:∀ {i:Inl} {obs':Nat→Option (Option Ob)} {v:AV} {s':ASt},Fr cx (l.filterMap (·.dst)) (putEnv (i.st s obs') o.dst v) s'→Fr cx ((o::l).filterMap (·.dst)) s s':=by
   intro i obs' v s' h2 t ht
   have ht':t∉l.filterMap (·.dst):=fun h'=>by
    obtain ⟨o',ho',hd⟩:=List.mem_filterMap.1 h'
    exact ht (List.mem_filterMap.2 ⟨o',List.mem_cons_of_mem _ ho',hd⟩)
   have hne:o.dst≠some t:=fun hd=>ht (List.mem_filterMap.2 ⟨o,List.mem_cons_self,hd⟩)
   rcases h2 t ht' with h3 | h3 | ⟨d,h3,h6⟩
   ·have h4:∀ (S:ASt) (v:AV),(putEnv S o.dst v).env t=S.env t:=by
     intro S v
     cases hd:o.dst with
     | none=>rfl
     | some d=>exact put_other _ _ fun e=>hne (by rw [hd,e])
    rw [h4] at h3
    have h5:∀ (i:Inl) (ob':Nat→Option (Option Ob)),(i.st s ob').env t=s.env t∨(i.st s ob').env t=⟨[],.un⟩:=by
     intro i ob'
     show cond _ _ _=_∨cond _ _ _=_
     cases (s.env t).v.noPtr s with
     | true=>exact .inl rfl
     | false=>exact .inr rfl
    rw [h3]
    exact (h5 _ _).imp id .inl
   ·exact .inr (.inl h3)
   ·refine .inr (.inr ⟨d,?_,h6⟩)
    obtain ⟨o',ho',hd'⟩:=List.mem_filterMap.1 h3
    exact List.mem_filterMap.2 ⟨o',List.mem_cons_of_mem _ ho',hd'⟩
  revert h
  simp only [vcSeq]
  split
  ·exact id
  split
  ·rw [Bool.cond_eq_ite,Bool.cond_eq_ite]
   split
   ·exact fun h=>Inl.mono _ (fun v obs' he=>vcSeq_frame hk he fun s' h1 h2=>hq s' h1 (frI h2)) h
   ·exact id
  ·rw [Bool.cond_eq_ite,Bool.cond_eq_ite]
   split
   ·exact fun h=>⟨fun hy=>Inl.mono _ (fun v obs' he=>vcSeq_frame hk he fun s' h1 h2=>hq s' h1 (frI h2)) (h.1 hy),fun hy=>vcSeq_frame hk (h.2 hy) fun s' h1 h2=>hq s' h1 (fr h2)⟩
   ·exact id
  ·split
   ·rw [Bool.cond_eq_ite,Bool.cond_eq_ite]
    split
    ·exact fun h=>⟨h.1,fun hb=>vcSeq_frame hk (h.2.1 hb) fun s' h1 h2=>hq s' h1 (fr h2),fun hb=>hk _ (h.2.2 hb)⟩
    ·exact id
   split
   ·rename_i e t₀ v _ _ _ _ _
    rw [Bool.cond_eq_ite,Bool.cond_eq_ite]
    split
    ·refine fun h=>⟨h.1,vcSeq_frame hk h.2 fun s' h1 h2=>hq s' h1 fun t ht=>?_⟩
     obtain ⟨d,hd,hal⟩:=aliEff_slot ‹aliEff cx s o=some _›
     by_cases ht0:t=t₀
     ·subst ht0
      exact .inr (.inr ⟨d,List.mem_filterMap.2 ⟨o,List.mem_cons_self,hd⟩,hal⟩)
     ·have ht':t∉l.filterMap (·.dst):=fun h'=>by
       obtain ⟨o',ho',hd⟩:=List.mem_filterMap.1 h'
       exact ht (List.mem_filterMap.2 ⟨o',List.mem_cons_of_mem _ ho',hd⟩)
      have hne:o.dst≠some t:=fun hd=>ht (List.mem_filterMap.2 ⟨o,List.mem_cons_self,hd⟩)
      rcases h2 t ht' with h4 | h4 | ⟨d',h4,h5⟩
      ·left
       rw [h4]
       show put (s.app o.dst [] e).env t₀ ⟨[],v⟩ t=_
       rw [put_other _ _ ht0,app_env,if_neg hne]
      ·exact .inr (.inl h4)
      ·refine .inr (.inr ⟨d',?_,h5⟩)
       obtain ⟨o',ho',hd'⟩:=List.mem_filterMap.1 h4
       exact List.mem_filterMap.2 ⟨o',List.mem_cons_of_mem _ ho',hd'⟩
    ·exact id
   split
   ·rename_i T hT
    rw [Bool.cond_eq_ite,Bool.cond_eq_ite]
    split
    ·exact fun h=>relEff_mono ‹relEff cx s _ o=some _› (fun e he=>vcSeq_frame hk he fun s' h1 h2=>hq s' h1 (fr h2)) h
    ·exact id
   ·rw [Bool.cond_eq_ite,Bool.cond_eq_ite]
    split
    ·exact fun h=>⟨fun hy=>relEff_mono ‹relEff cx s _ o=some _› (fun e he=>vcSeq_frame hk he fun s' h1 h2=>hq s' h1 (fr h2)) (h.1 hy),fun hy=>vcSeq_frame hk (h.2 hy) fun s' h1 h2=>hq s' h1 (fr h2)⟩
    ·exact id
   ·split
    ·split
     ·rw [Bool.cond_eq_ite,Bool.cond_eq_ite]
      split
      ·exact hk _
      ·exact id
     ·exact id
    ·rw [Bool.cond_eq_ite,Bool.cond_eq_ite]
     split
     ·exact fun h=>⟨h.1,vcSeq_frame hk h.2 fun s' h1 h2=>hq s' h1 (fr h2)⟩
     ·exact id
theorem vcSeq_mono {G G':ASt→Prop} {KP KP':Nat→Prop} {l:List Oper} {s:ASt} (h:vcSeq cx ops l s G KP) (hq:∀ s',G s'→G' s') (hk:∀ T,KP T→KP' T):vcSeq cx ops l s G' KP':=vcSeq_frame hk h fun s' h1 _=>hq s' h1
theorem vc_mono:∀ (c:Code) (s:ASt) (Q Q':Exit→ASt→Prop),vc cx c s Q→(∀ e s',Q e s'→Q' e s')→vc cx c s Q':=by
 intro c
 induction c with
 | skip=>intro s Q Q' h hq;exact hq _ _ h
 | region id ops d =>
  intro s Q Q' h hq
  simp only [vc] at h ⊢
  cases hm:mayRel cx ops with
  | true =>
   rw [hm] at h
   cases d with
   | true =>
    simp only [cond_true] at h ⊢
    revert h
    unfold vcDraw
    split
    ·exact fun h=>h
    ·rw [Bool.cond_eq_ite,Bool.cond_eq_ite]
     split
     ·exact conj_mono fun h=>vcSeq_mono h (fun s' h1=>hq _ _ h1) fun T h1=>hq _ _ h1
     ·exact fun h=>h
   | false =>
   simp only [cond_true,cond_false] at h ⊢
   cases hg:guardsOk ops with
   | false=>rw [hg] at h;exact h.elim
   | true =>
    rw [hg] at h
    exact vcSeq_mono h (fun s' h1=>hq _ _ h1) fun T h1=>hq _ _ h1
  | false =>
   rw [hm] at h
   simp only [cond_false,vcRegion] at h ⊢
   split at h
   ·exact h.elim
   ·rename_i R hR
    cases hc:(guardsOk ops&&(!d||drawOk ops.size ops R.feet)) with
    | false=>rw [hc] at h;exact h.elim
    | true =>
     rw [hc] at h
     exact conj_mono (fun hk=>hq _ _ hk) h
 | seq x y ihx ihy =>
  intro s Q Q' h hq
  refine ihx s _ _ h ?_
  intro e s' he
  cases e with
  | normal=>exact ihy s' _ _ he hq
  | _=>exact hq _ _ he
 | cond c x y ihx ihy =>
  intro s Q Q' h hq
  simp only [vc] at h ⊢
  split at h
  ·exact ⟨fun ht=>ihx s _ _ (h.1 ht) hq,fun ht=>ihy s _ _ (h.2 ht) hq⟩
  ·exact h.elim
 | block id x ih =>
  intro s Q Q' h hq
  refine ih s _ _ h ?_
  intro e s' he
  cases e with
  | exit i =>
   simp only at he ⊢
   cases hi:Nat.beq i id with
   | true=>rw [hi] at he;exact hq _ _ he
   | false=>rw [hi] at he;exact hq _ _ he
  | _=>exact hq _ _ he
 | loop x ih =>
  intro s Q Q' h hq
  simp only [vc] at h ⊢
  split at h
  ·exact h.elim
  ·rename_i a ha
   split at h
   ·exact h.elim
   ·rename_i hs hhs
    split at h
    ·exact h.elim
    ·rename_i x₀ hx
     cases hc:(annOk cx.yl a (Code.dsts x)&&(entryOk (canon cx (frzS s a.frz) a) a&&keepOk (canon cx (frzS s a.frz) a) a)) with
     | false=>rw [hc] at h;exact h.elim
     | true =>
      rw [hc] at h
      obtain ⟨I,m,h0,h1⟩:=h
      refine ⟨I,m,h0,fun y hy=>ih _ _ _ (h1 y hy) ?_⟩
      intro e s' he
      cases e with
      | normal=>exact he
      | _=>exact hq _ _ he
 | exit id=>intro s Q Q' h hq;exact hq _ _ h
 | scope x ih =>
  intro s Q Q' h hq
  refine ih s _ _ h ?_
  intro e s' he
  cases e with
  | goto l=>exact he
  | _=>exact hq _ _ he
 | label l=>intro s Q Q' h hq;exact hq _ _ h
 | ret=>intro s Q Q' h hq;exact hq _ _ h
 | rangeFunc g ps x y ihx ihy =>
  intro s Q Q' h hq
  revert h
  simp only [vc]
  split
  ·exact id
  rename_i a h2
  obtain ⟨S,hS⟩:∃ S,S=canon cx s a:=⟨_,rfl⟩
  rw [←hS]
  split
  ·split
   ·split
    ·exact id
    ·rw [Bool.cond_eq_ite,Bool.cond_eq_ite]
     split
     ·rintro ⟨hp,I,i0,i1,i2⟩
      refine ⟨hp,I,i0,fun e r z hz=>?_,fun z hz=>hq _ _ (i2 z hz)⟩
      refine ihx _ _ _ (i1 e r z hz) ?_
      intro ex s₁ hs₁
      cases ex with
      | normal =>
       refine ihy _ _ _ hs₁ ?_
       intro ex s'
       split
       ·cases cx.yl with
        | none=>exact fun h=>hq _ _ h
        | some _=>exact fun h=>h.elim
       cases ex with
       | normal=>exact id
       | ret=>exact exitAt_mono fun _ _ _=>hq _ _
       | exit i=>exact exitAt_mono fun _ _ _=>hq _ _
       | _=>exact id
      | _=>exact hs₁
     ·exact id
   ·exact id
  ·exact id
 | _=>intro s Q Q' h hq;exact h.elim
theorem range_fr {nt:Nat} {s:ASt} {a:LoopAnn} {ds:List Nat} (h:annOk cx.yl a ds=true) (hsl:a.slots=[]) {hs:List Shp} (z:Shps hs):Fr cx ds s (spread (headBase nt s a ds) [] a.objs hs z):=by
 have h0:=head_fr (cx:=cx) (yl:=cx.yl) (nt:=nt) (s:=s) (ds:=ds) h (x:=z)
 rw [hsl] at h0
 exact h0
theorem range_frC {nt:Nat} {s S:ASt} {a b:LoopAnn} {ds:List Nat} (hS:S=canon cx s b) (h:annOk cx.yl a ds=true) (hsl:a.slots=[]) {hs:List Shp} (z:Shps hs):Fr cx ds s (spread (headBase nt S a ds) [] a.objs hs z):=by
 subst hS
 exact ((show Fr cx ds s _ from (canon_env s).fr).trans (range_fr h hsl z)).mono fun t ht=>by rcases List.mem_append.1 ht with ht | ht<;>exact ht
theorem vc_frame:∀ (c:Code) (s:ASt) (Q Q':Exit→ASt→Prop),vc cx c s Q→(∀ e s',Q e s'→Fr cx (Code.dsts c) s s'→Q' e s')→vc cx c s Q':=by
 intro c
 induction c with
 | skip=>intro s Q Q' h hq;exact hq _ _ h (.refl _ _)
 | region id ops d =>
  intro s Q Q' h hq
  simp only [vc] at h ⊢
  cases hm:mayRel cx ops with
  | true =>
   rw [hm] at h
   cases d with
   | true =>
    simp only [cond_true] at h ⊢
    revert h
    unfold vcDraw
    split
    ·exact fun h=>h
    ·rename_i R hR
     rw [Bool.cond_eq_ite,Bool.cond_eq_ite]
     split
     ·refine conj_mono fun h=>vcSeq_frame (fun T h1=>hq _ _ h1 fun t _=>.inr (.inl rfl)) h fun s' h1 h2=>hq _ _ h1 ?_
      have hsub:∀ (l l':List Oper) (t:Nat),(∀ o∈l,o∈l')→t∉l'.filterMap (·.dst)→t∉l.filterMap (·.dst):=fun l l' t hl ht h'=>by
       obtain ⟨o',ho',hd⟩:=List.mem_filterMap.1 h'
       exact ht (List.mem_filterMap.2 ⟨o',hl o' ho',hd⟩)
      intro t ht
      have f1:=runOps_env hR t (hsub _ _ t (fun o ho=>List.mem_of_mem_take ho) ht)
      have f2:=h2 t (hsub _ _ t (fun o ho=>List.mem_of_mem_drop ho) ht)
      rw [←f1]
      exact f2.imp (fun h=>h) (Or.imp (fun h=>h) fun ⟨d,hd1,hd2⟩=>⟨d,by
       obtain ⟨o',ho',hd⟩:=List.mem_filterMap.1 hd1
       exact List.mem_filterMap.2 ⟨o',List.mem_of_mem_drop ho',hd⟩,hd2⟩)
     ·exact fun h=>h
   | false =>
   simp only [cond_true,cond_false] at h ⊢
   cases hg:guardsOk ops with
   | false=>rw [hg] at h;exact h.elim
   | true =>
    rw [hg] at h
    exact vcSeq_frame (fun T h1=>hq _ _ h1 fun t _=>.inr (.inl rfl)) h fun s' h1 h2=>hq _ _ h1 h2
  | false =>
   rw [hm] at h
   simp only [cond_false,vcRegion] at h ⊢
   split at h
   ·exact h.elim
   ·rename_i R hR
    cases hc:(guardsOk ops&&(!d||drawOk ops.size ops R.feet)) with
    | false=>rw [hc] at h;exact h.elim
    | true =>
     rw [hc] at h
     exact conj_mono (fun hk=>hq _ _ hk (bare_fr (runOps_env hR))) h
 | seq x y ihx ihy =>
  intro s Q Q' h hq
  refine ihx s _ _ h ?_
  intro e s' he hf
  cases e with
  | normal=>exact ihy s' _ _ he fun e' s'' h1 h2=>hq e' s'' h1 (hf.trans h2)
  | _=>exact hq _ _ he (hf.mono fun t ht=>List.mem_append.2 (.inl ht))
 | cond c x y ihx ihy =>
  intro s Q Q' h hq
  simp only [vc] at h ⊢
  split at h
  ·rename_i b hb
   exact ⟨fun ht=>ihx s _ _ (h.1 ht) fun e s' h1 h2=>hq e s' h1 (h2.mono fun t ht=>List.mem_append.2 (.inl ht)),fun ht=>ihy s _ _ (h.2 ht) fun e s' h1 h2=>hq e s' h1 (h2.mono fun t ht=>List.mem_append.2 (.inr ht))⟩
  ·exact h.elim
 | block id x ih =>
  intro s Q Q' h hq
  refine ih s _ _ h ?_
  intro e s' he hf
  cases e with
  | exit i =>
   simp only at he ⊢
   cases hi:Nat.beq i id with
   | true=>rw [hi] at he;exact hq _ _ he hf
   | false=>rw [hi] at he;exact hq _ _ he hf
  | _=>exact hq _ _ he hf
 | loop x ih =>
  intro s Q Q' h hq
  simp only [vc] at h ⊢
  split at h
  ·exact h.elim
  ·rename_i a ha
   split at h
   ·exact h.elim
   ·rename_i hs hhs
    split at h
    ·exact h.elim
    ·rename_i x₀ hx
     cases hc:(annOk cx.yl a (Code.dsts x)&&(entryOk (canon cx (frzS s a.frz) a) a&&keepOk (canon cx (frzS s a.frz) a) a)) with
     | false=>rw [hc] at h;exact h.elim
     | true =>
      rw [hc] at h
      simp only [Bool.and_eq_true] at hc
      obtain ⟨I,m,h0,h1⟩:=h
      refine ⟨I,m,h0,fun y hy=>ih _ _ _ (h1 y hy) ?_⟩
      intro e s' he hf
      cases e with
      | normal=>exact he
      | _=>exact hq _ _ he ((((show Fr cx (Code.dsts x) s _ from (canon_env (frzS s a.frz)).fr).trans (head_fr (s:=canon cx (frzS s a.frz) a) hc.1 y)).trans hf).mono fun t ht=>by rcases List.mem_append.1 ht with ht | ht<;>first | exact ht | (rcases List.mem_append.1 ht with ht | ht<;>exact ht))
 | exit id=>intro s Q Q' h hq;exact hq _ _ h (.refl _ _)
 | scope x ih =>
  intro s Q Q' h hq
  refine ih s _ _ h ?_
  intro e s' he hf
  cases e with
  | goto l=>exact he
  | _=>exact hq _ _ he hf
 | label l=>intro s Q Q' h hq;exact hq _ _ h (.refl _ _)
 | rangeFunc g ps x y _ _ =>
  intro s Q Q' h hq
  revert h
  simp only [vc]
  split
  ·exact id
  rename_i a h2
  obtain ⟨S,hS⟩:∃ S,S=canon cx s a:=⟨_,rfl⟩
  rw [←hS]
  split
  ·rename_i two elt F h1
   split
   ·rename_i hs g1 g2
    split
    ·exact id
    ·rename_i x₀ hx
     rw [Bool.cond_eq_ite,Bool.cond_eq_ite]
     split
     ·rename_i hc
      rintro ⟨hp,I,i0,i1,i2⟩
      simp only [Bool.and_eq_true] at hc
      refine ⟨hp,I,i0,fun e r z hz=>?_,fun z hz=>hq _ _ (i2 z hz) (range_frC hS hc.1 ‹_› z)⟩
      refine vc_mono _ _ _ _ (i1 e r z hz) ?_
      intro ex s₁ hs₁
      cases ex with
      | normal =>
       refine vc_mono _ _ _ _ hs₁ ?_
       intro ex s'
       split
       ·cases cx.yl with
        | none=>exact fun h=>hq _ _ h fun t _=>.inr (.inl rfl)
        | some _=>exact fun h=>h.elim
       cases ex with
       | normal=>exact id
       | ret=>exact exitAt_mono fun hc hs z hh=>hq _ _ hh (range_frC hS hc rfl z)
       | exit i=>exact exitAt_mono fun hc hs z hh=>hq _ _ hh (range_frC hS hc rfl z)
       | _=>exact id
      | _=>exact hs₁
     ·exact id
   ·exact id
  ·exact id
 | ret=>intro s Q Q' h hq;exact hq _ _ h (.refl _ _)
 | _=>intro s Q Q' h hq;exact h.elim
end
end Go.Sx
