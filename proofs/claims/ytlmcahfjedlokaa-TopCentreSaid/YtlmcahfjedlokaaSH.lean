/-
  The symbolic layer, part 32: the tables of one program; contracts from conditions, as a program's texts use them.
-/
import Derived.Test.YtlmcahfjedlokaaSG
import Derived.DeepKeys4
import Derived.ChangeArms
import Derived.WideShapes
import Derived.SizedLaws
import Derived.WideKeyArgs
import Derived.ChangeSame
import Derived.RowKit
import Derived.Handed
set_option linter.all false
namespace Go.Sx
def tab {α:Type}:List (Nat × α)→Nat→Option α
 | [],_=>none
 | p::l,b=>cond (Nat.beq b p.1) (some p.2) (tab l b)
theorem tab_mem {α:Type}:∀ {l:List (Nat × α)} {n:Nat} {x:α},tab l n=some x→(n,x)∈l
 | [],_,_,h=>by cases h
 | p::l,n,x,h=>by
  simp only [tab,Bool.cond_eq_ite] at h
  split at h
  ·rename_i hb
   cases h
   rw [Nat.eq_of_beq_eq_true hb]
   exact List.mem_cons_self
  ·exact List.mem_cons_of_mem _ (tab_mem h)
structure Tabs where
 tyL:List (Nat × Ty)
 elL:List (Nat × Nat)
 oneL:List Nat
 mtyL:List (Nat × (Nat × Nat))
 mthL:List ((Nat × String) × Nat):=[]
def tabM:List ((Nat × String) × Nat)→Nat→String→Option Nat
 | [],_,_=>none
 | p::l,T,nm=>cond (Nat.beq T p.1.1&&nm==p.1.2) (some p.2) (tabM l T nm)
theorem tabM_mem:∀ {l:List ((Nat × String) × Nat)} {T:Nat} {nm:String} {f:Nat},tabM l T nm=some f→((T,nm),f)∈l
 | [],_,_,_,h=>by cases h
 | ((T',nm'),f')::l,T,nm,f,h=>by
  simp only [tabM,Bool.cond_eq_ite] at h
  split at h
  ·rename_i hb
   rw [Bool.and_eq_true,beq_iff_eq] at hb
   cases h
   rw [Nat.eq_of_beq_eq_true hb.1,hb.2]
   exact List.mem_cons_self
  ·exact List.mem_cons_of_mem _ (tabM_mem h)
def Tabs.ty (T:Tabs):Nat→Option Ty:=tab T.tyL
def Tabs.el (T:Tabs) (t:Nat):Nat:=(tab T.elL t).getD 0
def Tabs.ok (T:Tabs) (P:Program):Bool:=(T.tyL.all fun p=>tyOk P T.ty T.el p.1)&&(T.oneL.all (oneOk P)&&T.mthL.all (mthOk P))
structure TabsOk (P:Program) (T:Tabs):Prop where
 ok:T.ok P=true
 mty:∀ p∈T.mtyL,P.underlying p.1=some (.map p.2.1 p.2.2)∧Maps.Keyed P p.2.1∧P.keyType p.2.1=true
def Good (P:Program) (f:Nat) (k:Con):Prop:=Enters P f∧Holds P f k
def GoodL (P:Program) (f:Nat) (k:LCon):Prop:=Enters P f∧HoldsL P f k
def GoodI (P:Program) (f:Nat) (k:ICon):Prop:=Enters P f∧HoldsI P f k
def AllC (P:Program):List (Nat × Con)→Prop
 | []=>True
 | p::l=>Good P p.1 p.2∧AllC P l
def AllL (P:Program):List (Nat × LCon)→Prop
 | []=>True
 | p::l=>GoodL P p.1 p.2∧AllL P l
def AllI (P:Program):List (Nat × ICon)→Prop
 | []=>True
 | p::l=>GoodI P p.1 p.2∧AllI P l
theorem AllC.mem {P:Program}:∀ {l:List (Nat × Con)} {p:Nat × Con},AllC P l→p∈l→Good P p.1 p.2
 | _::_,_,h,.head _=>h.1
 | _::_,_,h,.tail _ hm=>AllC.mem h.2 hm
theorem AllL.mem {P:Program}:∀ {l:List (Nat × LCon)} {p:Nat × LCon},AllL P l→p∈l→GoodL P p.1 p.2
 | _::_,_,h,.head _=>h.1
 | _::_,_,h,.tail _ hm=>AllL.mem h.2 hm
theorem AllI.mem {P:Program}:∀ {l:List (Nat × ICon)} {p:Nat × ICon},AllI P l→p∈l→GoodI P p.1 p.2
 | _::_,_,h,.head _=>h.1
 | _::_,_,h,.tail _ hm=>AllI.mem h.2 hm
def mkCx (T:Tabs) (nt:Nat) (conL:List (Nat × Con)) (lconL:List (Nat × LCon)) (iconL:List (Nat × ICon)) (bvs mbx:List Nat) (ann:List (Nat × LoopAnn)) (mkm:List (Nat × MInv)) (yl:Option YInfo):Cx :=
 {ty:=T.ty,el:=T.el,one:=fun t=>memN t T.oneL,con:=tab conL,bvs,mbx,ann:=tab ann,nt,lcon:=tab lconL,icon:=tab iconL,mty:=tab T.mtyL,mkm:=tab mkm,yl,mth:=tabM T.mthL }
def GoodN (P:Program) (f:Nat) (k:NCon):Prop:=Enters P f∧HoldsN P f k
def AllN (P:Program):List (Nat × NCon)→Prop
 | []=>True
 | p::l=>GoodN P p.1 p.2∧AllN P l
theorem AllN.mem {P:Program}:∀ {l:List (Nat × NCon)} {p:Nat × NCon},AllN P l→p∈l→GoodN P p.1 p.2
 | _::_,_,h,.head _=>h.1
 | _::_,_,h,.tail _ hm=>AllN.mem h.2 hm
theorem mem_memN:∀ {l:List Nat} {a:Nat},memN a l=true→a∈l
 | [],_,h=>by cases h
 | b::l,a,h=>by
  simp only [memN,Bool.or_eq_true] at h
  rcases h with h | h
  ·rw [Nat.eq_of_beq_eq_true h];exact List.mem_cons_self
  ·exact List.mem_cons_of_mem _ (mem_memN h)
theorem mkCx_ok {P:Program} {T:Tabs} {nt:Nat} {conL:List (Nat × Con)} {lconL:List (Nat × LCon)} {iconL:List (Nat × ICon)} {bvs mbx:List Nat} {ann:List (Nat × LoopAnn)} {mkm:List (Nat × MInv)} {yl:Option YInfo}
  (hT:TabsOk P T) (hc:AllC P conL) (hl:AllL P lconL) (hi:AllI P iconL):CxOk P (mkCx T nt conL lconL iconL bvs mbx ann mkm yl) where
 ty t a h:=by
  have h1:=hT.ok
  simp only [Tabs.ok,Bool.and_eq_true,List.all_eq_true] at h1
  exact tyF_of (h1.1 _ (tab_mem h)) h
 con f k h:=hc.mem (tab_mem h)
 one t h:=by
  have h1:=hT.ok
  simp only [Tabs.ok,Bool.and_eq_true,List.all_eq_true] at h1
  exact oneF_of (h1.2.1 _ (mem_memN h))
 lcon f k h:=hl.mem (tab_mem h)
 ncon f k h:=(by cases h)
 pcon f k h:=(by cases h)
 tryf f k h:=(by cases h)
 icon f k h:=hi.mem (tab_mem h)
 mty t k e h:=hT.mty _ (tab_mem h)
 mth T' nm f h:=by
  have h1:=hT.ok
  simp only [Tabs.ok,Bool.and_eq_true,List.all_eq_true] at h1
  exact mthF_of (p:=((T',nm),f)) (h1.2.2 _ (tabM_mem h))
 inl d i h:=(by cases h)
 strs T h:=(by cases h)
def withHld (l:List Nat) (cx:Cx):Cx:={ cx with hld:=l }
theorem withHld_ok {P:Program} {cx:Cx} {l:List Nat} (h:CxOk P cx):CxOk P (withHld l cx):=⟨h.ty,h.con,h.one,h.lcon,h.pcon,h.tryf,h.ncon,h.icon,h.mty,h.mth,h.inl,h.strs⟩
def AllS (P:Program):List Nat→Prop
 | []=>True
 | T::l=>P.underlying T=some .string∧AllS P l
theorem AllS.mem {P:Program}:∀ {l:List Nat} {T:Nat},AllS P l→T∈l→P.underlying T=some .string
 | _::_,_,h,.head _=>h.1
 | _::_,_,h,.tail _ hm=>AllS.mem h.2 hm
def GoodX (P:Program) (f:Nat) (k:PCon):Prop:=Enters P f∧HoldsX P f k
def AllX (P:Program):List (Nat × PCon)→Prop
 | []=>True
 | p::l=>GoodX P p.1 p.2∧AllX P l
theorem AllX.mem {P:Program}:∀ {l:List (Nat × PCon)} {p:Nat × PCon},AllX P l→p∈l→GoodX P p.1 p.2
 | _::_,_,h,.head _=>h.1
 | _::_,_,h,.tail _ hm=>AllX.mem h.2 hm
def GoodT (P:Program) (f T:Nat):Prop:=Enters P f∧HoldsTry P f T
def AllT (P:Program):List (Nat × Nat)→Prop
 | []=>True
 | p::l=>GoodT P p.1 p.2∧AllT P l
theorem AllT.mem {P:Program}:∀ {l:List (Nat × Nat)} {p:Nat × Nat},AllT P l→p∈l→GoodT P p.1 p.2
 | _::_,_,h,.head _=>h.1
 | _::_,_,h,.tail _ hm=>AllT.mem h.2 hm
def fnOk (fn:Func) (n:Nat):Bool:=fn.body.isSome&&(!(fn.name == "runtime.NumGoroutine")&&(Nat.ble fn.results.toList.length 4&&Nat.ble n fn.ntmps))
theorem fnOk_of {fn:Func} {n:Nat} (h:fnOk fn n=true):(∃ c,fn.body=some c)∧(fn.name == "runtime.NumGoroutine")=false∧fn.results.toList.length≤4∧n≤fn.ntmps:=by
 simp only [fnOk,Bool.and_eq_true,Bool.not_eq_true',Option.isSome_iff_exists] at h
 exact ⟨h.1,h.2.1,Nat.le_of_ble_eq_true h.2.2.1,Nat.le_of_ble_eq_true h.2.2.2⟩
section
variable {P:Program} {f:Nat} {fn:Func}
theorem con_of {k:Con} (hm:P.follows .mixedOrders=true) (hf:P.funcs[f]?=some fn) (hq:fnOk fn k.args.length=true)
  (hv:∀ x,k.pre x→∃ cx:Cx,CxOk P cx∧cx.yl=none∧cx.nt=fn.ntmps∧vcFun cx fn k x):Good P f k:=by
 obtain ⟨⟨c,hb⟩,h1,h2,h3⟩:=fnOk_of hq
 exact ⟨enters_of hf h1 hb,holds_of_vc hf hb hm h2 h3 hv⟩
theorem lcon_of {k:LCon} (hm:P.follows .mixedOrders=true) (hf:P.funcs[f]?=some fn) (hq:fnOk fn k.args.length=true)
  (hv:∀ x,k.pre x→∃ cx:Cx,CxOk P cx∧cx.yl=none∧cx.nt=fn.ntmps∧vcFunL cx fn f k x):GoodL P f k:=by
 obtain ⟨⟨c,hb⟩,h1,h2,h3⟩:=fnOk_of hq
 exact ⟨enters_of hf h1 hb,holdsL_of_vc hf hb hm h2 h3 hv⟩
end
def GoodQ (P:Program) (i:Inl):Prop:=Enters P i.f∧HoldsQ P i.f i.T
def AllQ (P:Program):List (Nat × Inl)→Prop
 | []=>True
 | p::l=>GoodQ P p.2∧AllQ P l
theorem AllQ.mem {P:Program}:∀ {l:List (Nat × Inl)} {p:Nat × Inl},AllQ P l→p∈l→GoodQ P p.2
 | _::_,_,h,.head _=>h.1
 | _::_,_,h,.tail _ hm=>AllQ.mem h.2 hm
def withInl (l:List (Nat × Inl)) (cx:Cx):Cx:={ cx with inl:=tab l }
theorem withInl_ok {P:Program} {cx:Cx} {l:List (Nat × Inl)} (h:CxOk P cx) (hq:AllQ P l):CxOk P (withInl l cx) :=
 ⟨h.ty,h.con,h.one,h.lcon,h.pcon,h.tryf,h.ncon,h.icon,h.mty,h.mth,fun _ _ h'=>hq.mem (tab_mem h'),h.strs⟩
theorem inl_of {P:Program} {f b fr:Nat} {fn:Func} {cx:Cx} (hm:P.follows .mixedOrders=true) (hf:P.funcs[f]?=some fn) (hq:fnOk fn 0=true) (hcx:CxOk P cx) (hyl:cx.yl=none) (hnt:cx.nt=fn.ntmps):GoodQ P (mkInl f b fr cx fn):=by
 obtain ⟨⟨c,hb⟩,h1,h2,h3⟩:=fnOk_of hq
 exact ⟨enters_of hf h1 hb,holdsQ_of_vc hf hb hm h2 hcx hyl hnt⟩
def fnIOk (fn:Func) (n:Nat):Bool:=fn.body.isSome&&(!(fn.name == "runtime.NumGoroutine")&&(fn.results.toList.isEmpty&&Nat.ble (n+1) fn.ntmps))
theorem icon_of {P:Program} {f:Nat} {fn:Func} {k:ICon} (hm:P.follows .mixedOrders=true) (hf:P.funcs[f]?=some fn) (hq:fnIOk fn k.args.length=true)
  (hv:∀ x ly,k.pre x→∃ cx gid,CxOk P cx∧cx.yl=some ⟨ly,gid,k.two,k.elt,k.seq x⟩∧cx.nt=fn.ntmps∧vcIter cx fn k x):GoodI P f k:=by
 simp only [fnIOk,Bool.and_eq_true,Bool.not_eq_true',Option.isSome_iff_exists,List.isEmpty_iff] at hq
 obtain ⟨⟨c,hb⟩,h1,h2,h3⟩:=hq
 exact ⟨enters_of hf h1 hb,holdsI_of_vc hf hb hm (by rw [←Array.toList_inj];exact h2) (Nat.le_of_ble_eq_true h3) hv⟩
end Go.Sx
/-
 The symbolic layer,part 33: a row's arguments are data;they read behind the call as before.
-/
namespace Go.Sx
open Go.WideShapes Go.WideElems
def Ty.plain:Ty→Bool
 | .i _=>true
 | .bo=>true
 | .u=>true
 | .p a b=>a.plain&&b.plain
 | .st a=>a.plain
 | .sl t=>t.plain
 | _=>false
section
variable {H:Type} {enc:TypeId × Value→H} {P:Program} {ty:Nat→Option Ty} {el:Nat→Nat} {w:World}
def Light (P:Program) (T:TypeId) (d:DataW H):Prop:=∀ n∈DataW.weights P T d,n≤reachBytes
theorem weights_all {e:TypeId} {n:Nat}:∀ {l:List (DataW H)} {d:DataW H},d∈l→n∈DataW.weights P e d→n∈DataW.weightsAll P e l
 | a::l,d,h,hn=>by
  rw [DataW.weightsAll]
  rcases List.mem_cons.1 h with rfl | h
  ·exact List.mem_append_left _ hn
  ·exact List.mem_append_right _ (weights_all h hn)
theorem weights_each {n:Nat}:∀ {ts:List TypeId} {l:List (DataW H)} {i:Nat} {t:TypeId} {d:DataW H},ts[i]?=some t→l[i]?=some d→n∈DataW.weights P t d→n∈DataW.weightsEach P ts l
 | [],_,_,_,_,h,_,_=>by simp at h
 | _::_,[],_,_,_,_,h,_=>by simp at h
 | t₀::ts,a::l,0,t,d,h,h',hn=>by
  simp only [List.getElem?_cons_zero,Option.some.injEq] at h h'
  subst h h'
  rw [DataW.weightsEach]
  exact List.mem_append_left _ hn
 | t₀::ts,a::l,i+1,t,d,h,h',hn=>by
  rw [DataW.weightsEach]
  exact List.mem_append_right _ (weights_each (i:=i) (by simpa using h) (by simpa using h') hn)
def RD (H:Type) (enc:TypeId × Value→H) (P:Program) (ty:Nat→Option Ty) (w:World) (t:Ty):Prop :=
 ∀ T fuel cs (d:DataW H) ps,ty T=some t→DataW.trod enc P w 0 (fun _=>true) true fuel T cs=some (d,ps)→Light P T d→∃ x:t.D,Rep P t w noM cs x
def SD (H:Type) (enc:TypeId × Value→H) (P:Program) (ty:Nat→Option Ty) (w:World) (sp:Ty):Prop :=
 ∀ (fs:List Field) (off n:Nat) (cs:List Value) (xs:List (DataW H × List MemPlace)),fieldsAre ty fs (comps sp) off=true→cs.length=off+sp.n→xs.length=fs.length →
  (∀ (i:Nat) (f:Field),fs[i]?=some f→DataW.trod enc P w 0 (fun _=>true) true n f.type ((cs.drop f.offset).take (P.cellsOf f.type))=xs[i]?) →
  (∀ (i:Nat) (f:Field) (x:DataW H × List MemPlace),fs[i]?=some f→xs[i]?=some x→Light P f.type x.1)→∃ y:sp.D,Rep P sp w noM (cs.drop off) y
theorem TyF.cellsOf {T:TypeId} {t:Ty} (h:TyF P ty el T t):P.cellsOf T=t.n:=by
 obtain ⟨i,d,h1,_,h3,_⟩:=h.info
 simp [Program.cellsOf,h1,h3]
theorem sd_head (hty:∀ T t,ty T=some t→TyF P ty el T t) {t:Ty} {ts:List Ty} (h:RD H enc P ty w t) {fs:List Field} {off n:Nat} {cs:List Value} {xs:List (DataW H × List MemPlace)} (hf:fieldsAre ty fs (t::ts) off=true) (hx:xs.length=fs.length)
  (h1:∀ (i:Nat) (f:Field),fs[i]?=some f→DataW.trod enc P w 0 (fun _=>true) true n f.type ((cs.drop f.offset).take (P.cellsOf f.type))=xs[i]?)
  (h2:∀ (i:Nat) (f:Field) (x:DataW H × List MemPlace),fs[i]?=some f→xs[i]?=some x→Light P f.type x.1) :
  ∃ f fs' x xs',fs=f::fs'∧xs=x::xs'∧fieldsAre ty fs' ts (off+t.n)=true∧∃ y:t.D,Rep P t w noM ((cs.drop off).take t.n) y:=by
 cases fs with
 | nil=>cases hf
 | cons f fs =>
  cases xs with
  | nil=>simp at hx
  | cons x xs =>
   simp only [fieldsAre,Bool.and_eq_true] at hf
   obtain ⟨f1,f2,_,_,f5⟩:=hf
   have hT:=tyIs_eq f1
   have ho:=Nat.eq_of_beq_eq_true f2
   have e:=h1 0 f rfl
   rw [(hty _ _ hT).cellsOf,ho] at e
   obtain ⟨d,ps⟩:=x
   exact ⟨f,fs,_,xs,rfl,rfl,f5,h _ _ _ _ _ hT e (h2 0 f (d,ps) rfl rfl)⟩
theorem sd_one (hty:∀ T t,ty T=some t→TyF P ty el T t) {t:Ty} (hc:comps t=[t]) (h:RD H enc P ty w t):SD H enc P ty w t:=by
 intro fs off n cs xs hf hl hx h1 h2
 rw [hc] at hf
 obtain ⟨_,_,_,_,_,_,_,y,hy⟩:=sd_head hty h hf hx h1 h2
 rw [List.take_of_length_le (by rw [List.length_drop];omega)] at hy
 exact ⟨y,hy⟩
theorem all2u_get {α β:Type} {R:α→β→Prop}:∀ {l:List α} {r:List β},l.length=r.length→(∀ (i:Nat) a b,l[i]?=some a→r[i]?=some b→R a b)→All2 R l r
 | [],[],_,_=>trivial
 | a::l,b::r,h,hR=>⟨hR 0 a b rfl rfl,all2u_get (by simpa using h) fun i a b ha hb=>hR (i+1) a b (by simpa using ha) (by simpa using hb)⟩
 | [],_::_,h,_=>by simp at h
 | _::_,[],h,_=>by simp at h
theorem gather {α β:Type} (R:Nat→α→β→Prop):∀ n,(∀ i,i<n→∃ a b,R i a b)→∃ (l:List α) (r:List β),l.length=n∧r.length=n∧∀ (i:Nat) a b,l[i]?=some a→r[i]?=some b→R i a b
 | 0,_=>⟨[],[],rfl,rfl,fun i a b h=>by simp at h⟩
 | n+1,h=>by
  obtain ⟨l,r,h1,h2,h3⟩:=gather R n fun i hi=>h i (by omega)
  obtain ⟨a,b,hab⟩:=h n (by omega)
  refine ⟨l++[a],r++[b],by simp [h1],by simp [h2],fun i x y hx hy=>?_⟩
  by_cases hi:i<n
  ·rw [List.getElem?_append_left (by omega)] at hx hy
   exact h3 i x y hx hy
  ·have hi':i=n:=by
    have:=(List.getElem?_eq_some_iff.1 hx).1
    simp only [List.length_append,List.length_cons,List.length_nil] at this
    omega
   subst hi'
   rw [List.getElem?_append_right (by omega)] at hx hy
   simp only [h1,Nat.sub_self,List.getElem?_cons_zero,Option.some.injEq] at hx
   simp only [h2,Nat.sub_self,List.getElem?_cons_zero,Option.some.injEq] at hy
   subst hx hy
   exact hab
theorem cells_flat {k:Nat} (A:Nat→Option Value):∀ (vss:List (List Value)) (off:Nat),(∀ (i:Nat) c,vss[i]?=some c→c.length=k∧∀ (j:Nat) v,c[j]?=some v→A (off+i*k+j)=some v)→∀ (j:Nat) v,vss.flatten[j]?=some v→A (off+j)=some v
 | [],_,_,j,v,h=>by simp at h
 | c::vss,off,hA,j,v,h=>by
  rw [List.flatten_cons] at h
  obtain ⟨hc,hv⟩:=hA 0 c rfl
  by_cases hj:j<k
  ·rw [List.getElem?_append_left (by omega)] at h
   simpa using hv j v h
  ·rw [List.getElem?_append_right (by omega),hc] at h
   have:=cells_flat A vss (off+k) (fun i c hi=>by
    obtain ⟨g1,g2⟩:=hA (i+1) c (by simpa using hi)
    refine ⟨g1,fun j v hj=>?_⟩
    have:=g2 j v hj
    rw [Nat.add_mul,Nat.one_mul] at this
    rw [←this];congr 1;omega) (j - k) v h
   rw [←this];congr 1;omega
theorem cell_block {a:Addr} {j:Nat} {v:Value} (h:w.cell? (a.add j)=some v):∃ c e z,w.heap[a.block]?=some (.cells c e z)∧c[a.off+j]?=some v:=by
 have hb:(a.add j).block=a.block:=by unfold Addr.add;split<;>rfl
 have ho:(a.add j).off=a.off+j:=by unfold Addr.add;split<;>simp_all
 unfold World.cell? at h
 rw [hb,ho] at h
 split at h
 ·rename_i c e z hc
  split at h
  ·cases h
  ·exact ⟨c,e,z,hc,h⟩
 ·cases h
theorem cell_spot {a:Addr} {v:Value} (h:w.cell? a=some v):a.spot=none:=by
 unfold World.cell? at h
 split at h
 ·split at h
  ·cases h
  ·rename_i hn;simpa using hn
 ·cases h
theorem add_add (a:Addr) (i j:Nat):(a.add i).add j=a.add (i+j):=by
 unfold Addr.add
 by_cases hi:i=0
 ·subst hi;simp
 ·by_cases hj:j=0
  ·subst hj;simp
  ·simp [hi,hj,Nat.add_assoc]
theorem add_zero' (a:Addr):a.add 0=a:=rfl
theorem read_all (hty:∀ T t,ty T=some t→TyF P ty el T t) (hpos:∀ T t,ty T=some t→t.n≠0→0<P.bytesOf T):∀ t:Ty,t.plain=true→RD H enc P ty w t∧SD H enc P ty w t
 | .i k,_=>by
  have h:RD H enc P ty w (.i k):=by
   intro T fuel cs d ps hT ht _
   obtain ⟨i,de,h1,h2,h3,h4,h5,h6,h7,_⟩:=(hty _ _ hT).info
   cases de<;>simp only [descIs] at h7<;>first | cases h7 | skip
   rename_i k'
   have e:=ikBeq_eq h7
   subst e
   obtain ⟨n,rfl,_,hw⟩:=DataW.trod_int h2 ht
   simp only [Lit.wf,Bool.and_eq_true,decide_eq_true_eq] at hw
   exact ⟨n,rfl,hw.1,hw.2⟩
  exact ⟨h,sd_one hty rfl h⟩
 | .bo,_=>by
  have h:RD H enc P ty w .bo:=by
   intro T fuel cs d ps hT ht _
   obtain ⟨i,de,h1,h2,h3,h4,h5,h6,h7,_⟩:=(hty _ _ hT).info
   cases de<;>simp only [descIs] at h7<;>first | cases h7 | skip
   obtain ⟨b,rfl,_⟩:=DataW.trod_bool h2 ht
   exact ⟨b,rfl⟩
  exact ⟨h,sd_one hty rfl h⟩
 | .u,_=>by
  refine ⟨?_,?_⟩
  ·intro T fuel cs d ps hT ht _
   obtain ⟨i,de,h1,h2,h3,h4,h5,h6,h7,_⟩:=(hty _ _ hT).info
   cases de<;>simp only [descIs] at h7<;>cases h7
  ·intro fs off n cs xs hf hl hx h1 h2
   refine ⟨(),?_⟩
   show cs.drop off=[]
   exact List.drop_eq_nil_of_le (by simp only [Ty.n] at hl;omega)
 | .p a b,hp=>by
  simp only [Ty.plain,Bool.and_eq_true] at hp
  obtain ⟨ha,_⟩:=read_all hty hpos a hp.1
  obtain ⟨_,hb⟩:=read_all hty hpos b hp.2
  refine ⟨?_,?_⟩
  ·intro T fuel cs d ps hT ht _
   obtain ⟨i,de,h1,h2,h3,h4,h5,h6,h7,_⟩:=(hty _ _ hT).info
   cases de<;>simp only [descIs] at h7<;>cases h7
  ·intro fs off n cs xs hf hl hx h1 h2
   simp only [Ty.n] at hl
   obtain ⟨f,fs',x,xs',rfl,rfl,hf',y,hy⟩:=sd_head hty ha (show fieldsAre ty fs (a::comps b) off=true from hf) hx h1 h2
   obtain ⟨z,hz⟩:=hb fs' (off+a.n) n cs xs' hf' (by omega) (by simpa using hx) (fun i g hg=>by simpa using h1 (i+1) g (by simpa using hg)) (fun i g x hg hx'=>h2 (i+1) g x (by simpa using hg) (by simpa using hx'))
   refine ⟨(y,z),(cs.drop off).take a.n,cs.drop (off+a.n),?_,hy,hz⟩
   rw [←List.drop_drop,List.take_append_drop]
 | .st a,hp=>by
  obtain ⟨_,hs⟩:=read_all hty hpos a hp
  have h:RD H enc P ty w (.st a):=by
   intro T fuel cs d ps hT ht hlt
   obtain ⟨i,de,h1,h2,h3,h4,h5,h6,h7,_⟩:=(hty _ _ hT).info
   cases de<;>simp only [descIs] at h7<;>first | cases h7 | skip
   rename_i fs
   obtain ⟨xs,n,_,hx,hl,hxl,hf⟩:=DataW.trod_struct h2 ht
   simp only [Prod.mk.injEq] at hx
   obtain ⟨rfl,_⟩:=hx
   rw [(hty _ _ hT).cellsOf] at hl
   obtain ⟨y,hy⟩:=hs fs.toList 0 n cs xs h7 (by simpa [Ty.n] using hl) (by simpa using hxl) (fun i f hi=>hf i f (by simpa using hi)) (fun i f x hi hx' m hm=>hlt m (by
    rw [DataW.weights,h2]
    exact weights_each (i:=i) (t:=f.type) (d:=x.1) (by rw [List.getElem?_map,hi];rfl) (by rw [List.getElem?_map,hx'];rfl) hm))
   exact ⟨y,hy⟩
  exact ⟨h,sd_one hty rfl h⟩
 | .sl t,hp=>by
  obtain ⟨ht',_⟩:=read_all hty hpos t hp
  have h:RD H enc P ty w (.sl t):=by
   intro T fuel cs d ps hT ht hlt
   obtain ⟨i,de,h1,h2,h3,h4,h5,h6,h7,_⟩:=(hty _ _ hT).info
   cases de<;>simp only [descIs] at h7<;>first | cases h7 | skip
   rename_i e
   simp only [Bool.and_eq_true,Bool.not_eq_true'] at h7
   obtain ⟨g1,g2,g3⟩:=h7
   have he:=tyIs_eq g1
   have hn:t.n≠0:=fun e=>by rw [e] at g3;cases g3
   rcases DataW.trod_slice h2 ht with ⟨rfl,_⟩ | ⟨a,len,cap,elems,rest,n,_,rfl,hx,_,hlc,hcm,hel,hgot,hrest,_⟩
   ·exact ⟨[],none,0,rfl,by simp,.inl rfl⟩
   ·simp only [Prod.mk.injEq] at hx
    obtain ⟨rfl,_⟩:=hx
    have hce:=(hty _ _ he).cellsOf
    rw [hce] at hgot
    have hlight:∀ m,m∈DataW.weights P T (.slice (elems.map (·.1)) (rest.map (·.1)))→m≤reachBytes:=hlt
    rw [DataW.weights,h2] at hlight
    have hbig:=hlight _ List.mem_cons_self
    have hbp:=hpos _ _ he hn
    simp only [List.length_map] at hbig
    have hlen47:len≤140737488355328:=by
     have:elems.length+rest.length≤(elems.length+rest.length)*P.bytesOf e:=Nat.le_mul_of_pos_right _ hbp
     have h47:=reachBytes_lt
     simp only [Nat.reducePow] at h47
     omega
    have key:∀ i,i<len→∃ (c:List Value) (x:t.D),(c.length=t.n∧∀ (j:Nat) v,c[j]?=some v→w.cell? (a.add (i*t.n+j))=some v)∧Rep P t w noM c x:=by
     intro i hi
     have hg:=hgot i hi
     obtain ⟨el,hel'⟩:∃ x,elems[i]?=some x:=⟨elems[i]'(by omega),List.getElem?_eq_getElem (by omega)⟩
     rw [hel',Option.bind_eq_some_iff] at hg
     obtain ⟨c,hc,htr⟩:=hg
     obtain ⟨dx,px⟩:=el
     obtain ⟨x,hx⟩:=ht' _ _ _ _ _ he htr (fun m hm=>hlight m (List.mem_cons_of_mem _ (List.mem_append_left _ (weights_all (d:=dx) (List.mem_map.2 ⟨(dx,px),List.mem_of_getElem? hel',rfl⟩) hm))))
     unfold World.cells? at hc
     rw [if_pos (Nat.zero_le _)] at hc
     have hcl:c.length=t.n:=by have:=mapM_some_length hc;simpa using this
     refine ⟨c,x,⟨hcl,fun j v hj=>?_⟩,hx⟩
     have hjl:=(List.getElem?_eq_some_iff.1 hj).1
     have:=mapM_some_get hc j j (by rw [List.getElem?_range (by omega)])
     rw [add_add] at this
     rw [this,hj]
    obtain ⟨vss,xs,k1,k2,k3⟩:=gather _ len key
    refine ⟨xs,some a,cap,by rw [k2],by rw [k2];omega,?_⟩
    by_cases hl0:len=0
    ·left
     exact List.eq_nil_of_length_eq_zero (by omega)
    ·right
     have hv:∀ (i:Nat) c,vss[i]?=some c→c.length=t.n∧∀ (j:Nat) v,c[j]?=some v→w.cell? (a.add (i*t.n+j))=some v:=by
      intro i c hc
      have hil:=(List.getElem?_eq_some_iff.1 hc).1
      exact (k3 i c (xs[i]'(by omega)) hc (List.getElem?_eq_getElem (by omega))).1
     obtain ⟨c0,hc0⟩:∃ c,vss[0]?=some c:=⟨vss[0]'(by omega),List.getElem?_eq_getElem (by omega)⟩
     obtain ⟨q1,q2⟩:=hv 0 c0 hc0
     obtain ⟨v0,hv0⟩:∃ v,c0[0]?=some v:=⟨c0[0]'(by omega),List.getElem?_eq_getElem (by omega)⟩
     have hcell:=q2 0 v0 hv0
     rw [Nat.zero_mul,Nat.zero_add] at hcell
     obtain ⟨A,eT,z,hA,_⟩:=cell_block hcell
     have hspot:a.spot=none:=cell_spot (by rw [add_zero'] at hcell;exact hcell)
     refine ⟨a.block,a.off,vss,?_,⟨(Array.getElem?_eq_some_iff.1 hA).1,id⟩,?_,A,eT,z,hA,?_⟩
     ·obtain ⟨b,o,s⟩:=a
      simp only at hspot
      rw [hspot]
     ·exact all2u_get (by omega) fun i c x hc hx=>(k3 i c x hc hx).2
     ·refine cells_flat (k:=t.n) (fun j=>A[j]?) vss a.off fun i c hc=>⟨(hv i c hc).1,fun j v hj=>?_⟩
      obtain ⟨A',eT',z',hA',hj'⟩:=cell_block ((hv i c hc).2 j v hj)
      rw [hA] at hA'
      cases hA'
      rw [←hj',Nat.add_assoc]
  exact ⟨h,sd_one hty rfl h⟩
end
def Ty.fits:(t:Ty)→t.D→Prop
 | .i k,n=>k.min≤(n:Int)∧(n:Int)≤k.max
 | .p a b,x=>a.fits x.1∧b.fits x.2
 | .st a,x=>a.fits x
 | .sl t,l=>(l:List t.D).length≤140737488355328∧∀ e∈(l:List t.D),t.fits e
 | _,_=>True
theorem all2u_mem {α β:Type} {R:α→β→Prop}:∀ {l:List α} {r:List β},All2 R l r→∀ b∈r,∃ a,R a b
 | [],[],_,b,hb=>by cases hb
 | a::l,c::r,h,b,hb=>by
  rcases List.mem_cons.1 hb with rfl | hb
  ·exact ⟨a,h.1⟩
  ·exact all2u_mem h.2 b hb
 | [],_::_,h,_,_=>h.elim
 | _::_,[],h,_,_=>h.elim
theorem Rep.fits {P:Program} {w:World} {M:Nat→Prop}:∀ {t:Ty} {cs:List Value} {x:t.D},Rep P t w M cs x→t.fits x
 | .i k,_,x,h=>⟨h.2.1,h.2.2⟩
 | .bo,_,_,_=>trivial
 | .u,_,_,_=>trivial
 | .p a b,_,x,h=>by
  obtain ⟨c,d,_,h1,h2⟩:=h
  exact ⟨Rep.fits h1,Rep.fits h2⟩
 | .st a,cs,x,h=>Rep.fits (t:=a) h
 | .sl t,_,x,h=>by
  obtain ⟨_,_,_,hl,h | ⟨b,off,vss,_,_,h2,_⟩⟩:=h
  ·refine ⟨by omega,fun e he=>?_⟩
   rw [h] at he;cases he
  ·refine ⟨by omega,fun e he=>?_⟩
   obtain ⟨c,hc⟩:=all2u_mem h2 e he
   exact Rep.fits hc
 | .arr _ _,_,_,_=>trivial
 | .ref _,_,_,_=>trivial
 | .rn _,_,_,_=>trivial
 | .sz _,_,_,_=>trivial
 | .mp _ _,_,_,_=>trivial
 | .f1 _ _,_,_,_=>trivial
 | .f2 _ _ _,_,_,_=>trivial
 | .f3 _ _ _ _,_,_,_=>trivial
 | .sq _ _,_,_,_=>trivial
 | .im _ _ _ _,_,_,_=>trivial
def DsFits:(ts:List Ty)→Ds ts→Prop
 | [],_=>True
 | [a],x=>a.fits x
 | a::b::r,x=>a.fits x.1∧DsFits (b::r) x.2
theorem ARep.fits {P:Program} {w:World} {M:Nat→Prop}:∀ {ts:List Ty} {vs:List Value} {x:Ds ts},ARep P w M ts vs x→DsFits ts x
 | [],_,_,_=>trivial
 | [_],_,_,⟨_,_,_,h,_⟩=>h.fits
 | _::_::_,_,_,⟨_,_,_,⟨_,h,_⟩,h3⟩=>⟨h.fits,ARep.fits h3⟩
end Go.Sx
/-
 The symbolic layer,part 34: the row of a law that returns true and changes nothing.
-/
namespace Go.Sx
open Go.WideShapes Go.WideElems
def tysOk (T:Tabs):List TypeId→List Ty→Bool
 | [],[]=>true
 | t::ts,a::as=>tyIs T.ty t a&&(a.plain&&tysOk T ts as)
 | _,_=>false
def Tabs.heavy (T:Tabs) (P:Program):Bool:=T.tyL.all fun p=>Nat.beq p.2.n 0||Nat.ble 1 (P.bytesOf p.1)
theorem Tabs.heavy_pos {T:Tabs} {P:Program} (h:T.heavy P=true):∀ t a,T.ty t=some a→a.n≠0→0<P.bytesOf t:=by
 intro t a ht hn
 have:=List.all_eq_true.1 h _ (tab_mem ht)
 simp only [Bool.or_eq_true] at this
 rcases this with h | h
 ·exact absurd (Nat.eq_of_beq_eq_true h) hn
 ·exact Nat.le_of_ble_eq_true h
theorem TabsOk.tyF {T:Tabs} {P:Program} (h:TabsOk P T):∀ t a,T.ty t=some a→TyF P T.ty T.el t a:=by
 intro t a ht
 have h1:=h.ok
 simp only [Tabs.ok,Bool.and_eq_true,List.all_eq_true] at h1
 exact tyF_of (h1.1 _ (tab_mem ht)) ht
section
variable {H:Type} {enc:TypeId × Value→H} {P:Program} {T:Tabs} {w:World}
theorem value_read (hT:TabsOk P T) (hb:T.heavy P=true) {t:TypeId} {a:Ty} {v:Value} {d:DataW H} {ps:List MemPlace} {base:Nat} (ha:T.ty t=some a) (hp:a.plain=true) (hv:Value.okWide P w .any base t v) (h:DataW.Trod enc P w 0 (fun _=>true) true t v d ps) (hl:Light P t d):∃ x:a.D,VRep P a w noM v x:=by
 obtain ⟨fuel,h⟩:=h
 obtain ⟨x,hx⟩:=(read_all (enc:=enc) hT.tyF (Tabs.heavy_pos hb) a hp).1 t fuel _ d ps ha h hl
 refine ⟨x,_,hx,?_⟩
 obtain ⟨i,de,h1,h2,h3,h4,h5,h6,h7,_⟩:=(hT.tyF _ _ ha).info
 cases a with
 | i k =>
  cases de<;>simp only [descIs] at h7<;>first | cases h7 | skip
  obtain ⟨n,rfl⟩:=okWide_int h2 hv
  rfl
 | bo =>
  cases de<;>simp only [descIs] at h7<;>first | cases h7 | skip
  obtain ⟨n,rfl⟩:=okWide_bool h2 hv
  rfl
 | sl b =>
  cases de<;>simp only [descIs] at h7<;>first | cases h7 | skip
  obtain ⟨_,_,_,rfl⟩:=okWide_slice h2 hv
  rfl
 | st b =>
  cases de<;>simp only [descIs] at h7<;>first | cases h7 | skip
  obtain ⟨cs,rfl,_⟩:=okWide_struct h2 hv
  simp [pack,Ty.agg,Value.cells]
 | u=>cases de<;>simp only [descIs] at h7<;>cases h7
 | p b c=>cases de<;>simp only [descIs] at h7<;>cases h7
 | arr n b=>cases hp
 | ref b=>cases hp
 | rn b=>cases hp
 | sz b=>cases hp
 | mp b c=>cases hp
 | f1 b c=>cases hp
 | f2 b c e=>cases hp
 | f3 b c d e=>cases hp
 | sq n b=>cases hp
 | im nm b c e=>cases hp
theorem args_read (hT:TabsOk P T) (hb:T.heavy P=true) {base:Nat}:∀ {ts:List TypeId} {vs:List Value} {ds:List (DataW H)} {ps:List MemPlace} {as:List Ty},DataW.TrodAll enc P w 0 (fun _=>true) true ts vs ds ps→tysOk T ts as=true →
  (∀ (j:Nat) t v,ts[j]?=some t→vs[j]?=some v→Value.okWide P w .any base t v)→(∀ (j:Nat) t d,ts[j]?=some t→ds[j]?=some d→Light P t d)→∃ x:Ds as,ARep P w noM as vs x
 | [],[],[],_,[],_,_,_,_=>⟨(),rfl⟩
 | [t],v::vs,d::ds,_,[a],⟨p,q,h1,h2,_⟩,htys,hok,hl=>by
  cases vs with
  | cons _ _=>cases ds<;>exact h2.elim
  | nil =>
   simp only [tysOk,Bool.and_eq_true] at htys
   obtain ⟨x,hx⟩:=value_read hT hb (tyIs_eq htys.1) htys.2.1 (hok 0 t v rfl rfl) h1 (hl 0 t d rfl rfl)
   exact ⟨x,v,rfl,hx⟩
 | t::t'::ts,v::vs,d::ds,_,a::a'::as,⟨p,q,h1,h2,_⟩,htys,hok,hl=>by
  simp only [tysOk,Bool.and_eq_true] at htys
  obtain ⟨x,hx⟩:=value_read hT hb (tyIs_eq htys.1) htys.2.1 (hok 0 t v rfl rfl) h1 (hl 0 t d rfl rfl)
  obtain ⟨y,hy⟩:=args_read hT hb (as:=a'::as) h2 (by simp only [tysOk,Bool.and_eq_true];exact htys.2.2) (fun j t v ht hv=>hok (j+1) t v (by simpa using ht) (by simpa using hv)) (fun j t d ht hd=>hl (j+1) t d (by simpa using ht) (by simpa using hd))
  exact ⟨(x,y),v,vs,rfl,hx,hy⟩
 | [],[],[],_,_::_,_,htys,_,_=>by cases htys
 | _::_,_::_,_::_,_,[],_,htys,_,_=>by cases htys
 | [_],_::_,_::_,_,_::_::_,_,htys,_,_=>by simp [tysOk] at htys
 | _::_::_,_::_,_::_,_,[_],_,htys,_,_=>by simp [tysOk] at htys
 | [],_::_,_,_,_,h,_,_,_=>h.elim
 | [],[],_::_,_,_,h,_,_,_=>h.elim
 | _::_,[],_,_,_,h,_,_,_=>h.elim
 | _::_,_::_,[],_,_,h,_,_,_=>h.elim
theorem trodAll_length:∀ {ts:List TypeId} {vs:List Value} {ds:List (DataW H)} {ps:List MemPlace} {base:Nat} {sp:Nat→Bool} {held:Bool},DataW.TrodAll enc P w base sp held ts vs ds ps→ds.length=ts.length
 | [],[],[],_,_,_,_,_=>rfl
 | _::_,_::_,_::_,_,_,_,_,⟨_,_,_,h2,_⟩=>by simp [trodAll_length h2]
 | [],_::_,_,_,_,_,_,h=>h.elim
 | [],[],_::_,_,_,_,_,h=>h.elim
 | _::_,[],_,_,_,_,_,h=>h.elim
 | _::_,_::_,[],_,_,_,_,h=>h.elim
theorem tysOk_length {T:Tabs}:∀ {ts:List TypeId} {as:List Ty},tysOk T ts as=true→as.length=ts.length
 | [],[],_=>rfl
 | _::ts,_::as,h=>by
  simp only [tysOk,Bool.and_eq_true] at h
  simp [tysOk_length h.2.2]
 | [],_::_,h=>by cases h
 | _::_,[],h=>by cases h
theorem trodAll_stays (hl:laidOutB P=true) {W W':World} (hx:Ext noM W W'):∀ {ts:List TypeId} {vs:List Value} {ds:List (DataW H)} {ps:List MemPlace},(ts.all fun t=>P.readableRec t&&decide (t<P.types.size))=true →
  DataW.TrodAll enc P W 0 (fun _=>true) true ts vs ds ps→(∀ x∈ps,x.block<W.heap.size)→DataW.TrodAll enc P W' 0 (fun b=>decide (b<W.heap.size)) true ts vs ds ps
 | [],[],[],_,_,h,_=>h
 | t::ts,v::vs,d::ds,_,hr,⟨p,q,h1,h2,e⟩,hlt=>by
  simp only [List.all_cons,Bool.and_eq_true,decide_eq_true_eq] at hr
  subst e
  refine ⟨p,q,Trod_stays hl hr.1.1 hr.1.2 h1 (fun x hx'=>?_) (fun x hx'=>by simpa using hlt x (List.mem_append_left _ hx')),trodAll_stays hl hx hr.2 h2 (fun x hx'=>hlt x (List.mem_append_right _ hx')),rfl⟩
  have hb:=hlt x (List.mem_append_left _ hx')
  cases x with
  | cell b o=>exact World.cell?_of_block (w:=W) (hx.2 b hb id)
  | map b=>exact hx.2 b hb id
 | [],_::_,_,_,_,h,_=>h.elim
 | [],[],_::_,_,_,h,_=>h.elim
 | _::_,[],_,_,_,h,_=>h.elim
 | _::_,_::_,[],_,_,h,_=>h.elim
theorem kept_of {W W':World} (hx:Ext noM W W') (may:MemPlace→Prop):W.keptBut W' may:=by
 refine ⟨hx.io.1,hx.io.2,fun i hi=>?_⟩
 rw [hx.2 i hi id]
 split<;>simp_all
theorem row_calls {f:Nat} {fn:Func} {args:List Ty} {pre:Ds args→Prop} {val:Ds args→Ds [.bo]} (hk:Sx.Good P f ⟨args,[.bo],pre,val,false⟩) (hpre:∀ x,DsFits args x→pre x) (hval:∀ x,val x=true)
  (hT:TabsOk P T) (hb:T.heavy P=true) (hl:laidOutB P=true) (htys:tysOk T fn.params.toList args=true) (hrd:(fn.params.toList.all fun t=>P.readableRec t&&decide (t<P.types.size))=true)
  {B:TypeId} (hres:fn.resultTypes=#[B]) (hB:P.underlying B=some .bool) {s:ChangeSpec} (hs:s.vars=[])
  (hfn:∀ ds:List (DataW H),ds.length=args.length→s.fn H ds={ results:=[.lit (.bool true)],args:=ds })
  {W:World} {base:Nat} {as:Array Value} {ds gs:List (DataW H)} {before:List MemPlace}
  (hok:∀ (j:Nat) t v,fn.params[j]?=some t→as[j]?=some v→Value.okWide P W .any base t v)
  (hW:DataW.Whole enc P fn.params.toList s.vars false W as.toList ds gs before)
  (hwt:(DataW.weightsEach P (fn.params.toList++s.plain.varTypes P) (ds++gs)).all (·≤reachBytes)=true) :
  Calls P f as W fun e W'=>∃ v,e=.returned v∧s.post enc P fn false true false false W as v W':=by
 have hW':=hW
 have hlt:=hW.lt
 obtain ⟨p,q,hA,hV,rfl,_,_⟩:=hW
 rw [hs] at hV
 cases gs with
 | cons _ _=>exact hV.elim
 | nil =>
 have hV:q=[]:=hV
 subst hV
 rw [List.append_nil] at hlt
 have hlen:=trodAll_length hA
 have hvt:s.plain.varTypes P=[]:=by simp [ChangeSpec.plain,DataSpec.varTypes,hs]
 rw [hvt,List.append_nil,List.append_nil] at hwt
 obtain ⟨x,hx⟩:=args_read hT hb hA htys (fun j t v ht hv=>hok j t v (by simpa using ht) (by simpa using hv)) (fun j t d ht hd n hn=>by
  have:=List.all_eq_true.1 hwt n (weights_each ht hd hn)
  simpa using this)
 have hc:=hk.2 W noM as.toList x (fun _ h=>h.elim) hx (hpre x hx.fits)
 rw [Array.toArray_toList] at hc
 refine Calls.mono (CallsX.calls hc) ?_
 rintro e W' ⟨v,rfl,hext,hr,_⟩
 refine ⟨v,rfl,?_⟩
 obtain ⟨cs,hcs,rfl⟩:VRep P .bo W' noM v (val x):=hr
 have hcs:cs=[.bool (val x)]:=hcs
 rw [hval x] at hcs
 subst hcs
 have hf:=hfn ds (hlen.trans (tysOk_length htys).symm)
 refine ⟨ds,[],_,[],p,[],hW',?_,?_,?_,World.keptBut_mono (fun _ h=>h.elim) (kept_of hext fun _=>False),fun h=>by cases h⟩
 ·rw [List.append_nil,hf,hres]
  refine ⟨[],[],RowKit.shut_bool hB true,?_,rfl⟩
  exact rfl
 ·rw [List.append_nil,hf]
  exact trodAll_stays hl hext hrd hA hlt
 ·rw [List.append_nil,hf,hs]
  exact rfl
end
end Go.Sx
