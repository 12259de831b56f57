/-
  The symbolic layer, part 28: functions that are given data and give data.
-/
import Derived.Test.YtdhdklojcppfcaaSF
import Derived.RangeFuncLeaves
set_option linter.all false
open Array renaming append_assoc->ydm,getD_eq_getD_getElem?->ycV,getElem?_append_left->ydk,replicate->yde,size_append->ybE,size_replicate->ydl
open Bool renaming cond_eq_ite->ybe
open List renaming mem_append->yas,mem_map->ycp,nodup_nil->ycA,size_toArray->ybu
open Nat renaming le_of_eq->yaK
open Option renaming map_eq_some_iff->yaB,map_some->yaH
open Option.some renaming inj->yaA,injEq->yaG
namespace Go.Sx
def resv (tmps:Array Value):ResultVar->Sem Value
 | .tmp t=>pure (tmps.getD t undef)
 | .cell a t=>do loadVar t (<-asAddr (tmps.getD a undef))
def resVal:List Value->Value
 | [v]=>v
 | l=>.tuple l.toArray
theorem zdy (fn:Func) (tmps:Array Value):results fn tmps=(do let vs <-fn.results.mapM (resv tmps);pure (if h:vs.size=1 then vs[0] else .tuple vs)):=by
 unfold results
 have e:(fun x:ResultVar=>match x with
   | .tmp t=>(pure (tmps.getD t undef):Sem Value)
   | .cell a t=>do loadVar t (<-asAddr (tmps.getD a undef)))=resv tmps:=by funext x;cases x<;>rfl
 rw [<-e]
 rfl
theorem zjt {P:Program} {fn:Func} {tmps:Array Value} {w:World}:∀ {l:List ResultVar} {vs:List Value},fn.results=l.toArray->l.length<=4->All2 (fun r v=>(resv tmps r).run P w=.ok v w) l vs->(results fn tmps).run P w=.ok (resVal vs) w
 | [],[],h,_,_=>by rw [zdy,h];simp [resVal]
 | [r],[v],h,_,hr=>by
  have h1:=hr.1
  rw [zdy,h]
  simp [Sem.run_bind,h1,Result.andThen,resVal]
 | [r1,r2],[v1,v2],h,_,hr=>by
  have h1:=hr.1;have h2:=hr.2.1
  rw [zdy,h]
  simp [Sem.run_bind,h1,h2,Result.andThen,resVal]
 | [r1,r2,r3],[v1,v2,v3],h,_,hr=>by
  have h1:=hr.1;have h2:=hr.2.1;have h3:=hr.2.2.1
  rw [zdy,h]
  simp [Sem.run_bind,h1,h2,h3,Result.andThen,resVal]
 | [r1,r2,r3,r4],[v1,v2,v3,v4],h,_,hr=>by
  have h1:=hr.1;have h2:=hr.2.1;have h3:=hr.2.2.1;have h4:=hr.2.2.2.1
  rw [zdy,h]
  simp [Sem.run_bind,h1,h2,h3,h4,Result.andThen,resVal]
 | _::_::_::_::_::_,_,_,hl,_=>by simp at hl
 | [],_::_,_,_,hr=>hr.elim
 | [_],[],_,_,hr=>hr.elim
 | [_],_::_::_,_,_,hr=>hr.2.elim
 | [_,_],[],_,_,hr=>hr.elim
 | [_,_],[_],_,_,hr=>hr.2.elim
 | [_,_],_::_::_::_,_,_,hr=>hr.2.2.elim
 | [_,_,_],[],_,_,hr=>hr.elim
 | [_,_,_],[_],_,_,hr=>hr.2.elim
 | [_,_,_],[_,_],_,_,hr=>hr.2.2.elim
 | [_,_,_],_::_::_::_::_,_,_,hr=>hr.2.2.2.elim
 | [_,_,_,_],[],_,_,hr=>hr.elim
 | [_,_,_,_],[_],_,_,hr=>hr.2.elim
 | [_,_,_,_],[_,_],_,_,hr=>hr.2.2.elim
 | [_,_,_,_],[_,_,_],_,_,hr=>hr.2.2.2.elim
 | [_,_,_,_],_::_::_::_::_::_,_,_,hr=>hr.2.2.2.2.elim
theorem leaves {P:Program} {n:Nat} {fn:Func} {tmps:Array Value} {R:Ending->World->Prop}:∀ {ds:List Deferred} {w:World},(∀ d∈ds,∃ D,d={ target:=.collected D,args:=#[] }/\w.heap[D]?=some (.deferred (some [])))->(ds.map dof).Nodup ->
  (∀ w':World,w'.heap.size=w.heap.size->(∀ b,b∉ds.map dof->w'.heap[b]?=w.heap[b]?)->(w'.os=w.os/\w'.output=w.output)->∃ v,(results fn tmps).run P w'=.ok v w'/\R (.returned v) w')->LeavesInM (FF P none) n P fn tmps R ds .returning w
 | [],w,_,_,h=>h w rfl (fun _ _=>rfl) ⟨rfl,rfl⟩
 | d::ds,w,hd,hn,h=>by
  obtain ⟨D,rfl,hD⟩:=hd d List.mem_cons_self
  have hn:=List.nodup_cons.1 (show (D::ds.map dof).Nodup from hn)
  refine ⟨by simp,.inl ⟨D,w.putObj D (.deferred none),rfl,run_takeDeferred hD,leaves ?_ hn.2 ?_⟩⟩
  ·intro d' hd'
   obtain ⟨D',rfl,hD'⟩:=hd d' (List.mem_cons_of_mem _ hd')
   refine ⟨D',rfl,(World.putObj_heap_other fun e=>?_).trans hD'⟩
   subst e
   exact hn.1 (ycp.2 ⟨_,hd',rfl⟩)
  ·intro w' h1 h2 h3
   refine h w' (h1.trans (by simp)) (fun b hb=>?_) h3
   have hb:b∉D::ds.map dof:=hb
   simp only [List.mem_cons,not_or] at hb
   exact (h2 b hb.2).trans (World.putObj_heap_other hb.1)
section
variable {K:Ctx} {cx:Cx} {s:ASt} {a:Act} {w:World} {β:Nat->Loc}
theorem RelB.left (h:RelB K s a w β) (hp:K.pins=[]) {w':World} (h1:w'.heap.size=w.heap.size) (h2:∀ b,b∉a.defers.map dof->w'.heap[b]?=w.heap[b]?) (hio:w'.os=w.os/\w'.output=w.output) :
  RelB K s { a with defers:=[] } w' β/\∀ b,b<K.w0.heap.size->w'.heap[b]?=w.heap[b]?:=by
 have hob:∀ o ob b,s.obs o=some (some ob)->(β o).has b->w'.heap[b]?=w.heap[b]?:=by
  intro o ob b ho hb
  refine h2 b fun hm=>?_
  obtain ⟨d,hd,e⟩:=ycp.1 hm
  obtain ⟨D,rfl,hD,_⟩:=h.defs d hd
  have e:D=b:=e
  subst e
  exact zcg h ho hb hD rfl
 have hlow:∀ b,b<K.w0.heap.size->w'.heap[b]?=w.heap[b]?:=by
  intro b hb
  refine h2 b fun hm=>?_
  obtain ⟨d,hd,e⟩:=ycp.1 hm
  obtain ⟨D,rfl,_,_,hD⟩:=h.defs d hd
  have e:D=b:=e
  omega
 have hL:ExtL noM w w':=⟨yaK h1.symm,fun b hb _ hm=>h2 b fun hmm=>by
  obtain ⟨d,hd,e⟩:=ycp.1 hmm
  obtain ⟨D,rfl,hD,_⟩:=h.defs d hd
  have e:D=b:=e
  subst e
  have:=hm _ hD
  cases this⟩
 have hcc:Compat s β s β:=.refl _ _
 have ht:Tr (Mset K.Mg s β) w (Mset K.Mg s β) w':=(hL.mono fun _ _ h=>h.elim).tr
 refine ⟨⟨⟨(by rw [h1];exact h.frame.1),fun b hb hn=>(hlow b hb).trans (h.frame.2 b hb hn),hio.1.trans h.frame.io.1,hio.2.trans h.frame.io.2⟩,(fun b hb=>by rw [h1];exact h.mg b hb),h.dis,?_,h.inj,h.rng,?_,h.size,(fun d hd=>by cases hd),ycA,(fun _=>rfl),?_,?_,h.fix,h.posC hcc,h.sb⟩,hlow⟩
 ·intro o ob ho
  exact (h.ob o ob ho).next hcc ht fun b hb=>hob o ob b ho hb
 ·intro t
  exact ⟨fun hg=>((h.env t).1 hg).next hcc ht,(h.env t).2⟩
 ·intro x hx
  rw [hp] at hx;cases hx
 ·refine K.Jst _ _ _ _ _ _ h.gh ⟨⟨yaK h1.symm,fun b _ _=>?_,hio⟩,fun _ _ h=>h⟩ ?_ ?_
  ·by_cases hm:b∈a.defers.map dof
   ·obtain ⟨d,hd,e⟩:=ycp.1 hm
    obtain ⟨D,rfl,hD,k1,k2⟩:=h.defs d hd
    have e:D=b:=e
    subst e
    exact .inr ⟨k2,k1,_,hD,rfl⟩
   ·exact .inl (h2 b hm)
  ·rintro b ⟨o,ob,k1,k2,k3⟩
   exact ⟨h.dis o ob b k1 k3,h.rng o ob b k1 k2 k3⟩
  ·rintro b ⟨o,ob,k1,k2,k3⟩
   rw [h1];exact h.blk_lt k1 k3
theorem res_rep (hcx:CxOk K.P cx) (h:RelB K s a w β) (hn:NoG s):∀ {l:List ResultVar} {avs:List AV},resOf cx s l=some avs->∃ vs,All2 (fun r v=>(resv a.tmps r).run K.P w=.ok v w) l vs/\All2 (AVRep K.P s β w (Mset K.Mg s β)) avs vs
 | [],avs,hr=>by
  simp only [resOf,yaG] at hr
  subst hr
  exact ⟨[],trivial,trivial⟩
 | .tmp t::l,avs,hr=>by
  simp only [resOf,yaB] at hr
  obtain ⟨avs',hr,rfl⟩:=hr
  obtain ⟨vs,h1,h2⟩:=res_rep hcx h hn hr
  exact ⟨a.tmps.getD t undef::vs,⟨rfl,h1⟩,(h.env t).1 (by rw [hn t];intro x hx;cases hx),h2⟩
 | .cell t T::l,avs,hr=>by
  have ht:=(h.env t).1 (by rw [hn t];intro x hx;cases hx)
  simp only [resOf] at hr
  split at hr
  ·rename_i o hv
   rw [hv] at ht
   split at hr
   ·rename_i f ty x ho
    change cond (tyIs cx.ty T ty) _ none=_ at hr
    cases hc:tyIs cx.ty T ty with
    | false=>rw [hc] at hr;cases hr
    | true =>
     rw [hc] at hr
     simp only [cond_true,yaB] at hr
     obtain ⟨avs',hr,rfl⟩:=hr
     obtain ⟨vs,h1,h2⟩:=res_rep hcx h hn hr
     simp only [AVRep,SVRep,ho] at ht
     obtain ⟨_,b,off,hb,hp,hva⟩:=ht
     obtain ⟨b',cs,e,hb',hh,hrep⟩:=h.ob o _ ho
     rw [hb] at hb';cases hb'
     have e0:offP ty []=some (0,ty):=by cases ty<;>rfl
     simp only [obPos,e0,yaH,yaG] at hp
     subst hp
     have hT:cx.ty T=some ty:=tyIs_eq hc
     have hl:=(hcx.ty T ty hT).load (w:=w) (b:=b) (off:=0) hrep ⟨cs.toArray,e,_,hh,fun j v hj=>by simpa using hj⟩
     refine ⟨pack ty cs::vs,⟨?_,h1⟩,⟨cs,hrep,rfl⟩,h2⟩
     show (resv a.tmps (.cell t T)).run K.P w=_
     rw [show resv a.tmps (.cell t T)=(do loadVar T (<-asAddr (a.tmps.getD t undef))) from rfl,hva]
     simpa [Instr.loadAt,Instr.sureAddr,asAddr] using hl
   ·rename_i v ho
    rw [ybe] at hr
    split at hr
    ·rename_i hc
     simp only [yaB] at hr
     obtain ⟨avs',hr,rfl⟩:=hr
     obtain ⟨vs,h1,h2⟩:=res_rep hcx h hn hr
     simp only [AVRep,SVRep,ho] at ht
     obtain ⟨_,b,off,hb,hp,hva⟩:=ht
     obtain ⟨b',u,e,hb',hh,hrep⟩:=h.ob o _ ho
     rw [hb] at hb';cases hb'
     simp only [obPos,yaG] at hp
     subst hp
     have h1f:=hcx.one T hc
     refine ⟨u::vs,⟨?_,h1⟩,hrep,h2⟩
     show (resv a.tmps (.cell t T)).run K.P w=_
     rw [show resv a.tmps (.cell t T)=(do loadVar T (<-asAddr (a.tmps.getD t undef))) from rfl,hva]
     have hcell:w.cell? ⟨b,0,none⟩=some u:=by simp [World.cell?,hh]
     simp [asAddr,loadVar,Sem.run_bind,h1f.agg w,Result.andThen,hcell]
    ·cases hr
   ·rename_i t' y hs hobj
    change cond (tyIs cx.ty T t'&&t'.agg) _ none=_ at hr
    rw [ybe] at hr
    split at hr
    ·rename_i hc
     simp only [Bool.and_eq_true] at hc
     obtain ⟨hc,hag⟩:=hc
     simp only [yaB] at hr
     obtain ⟨avs',hr,rfl⟩:=hr
     obtain ⟨vs',h1,h2⟩:=res_rep hcx h hn hr
     obtain ⟨b,vs,et,us,hb,hh,hr,hus⟩:=h.ob _ _ hobj
     simp only [AVRep,SVRep,hobj] at ht
     obtain ⟨_,b',off,hb',hp,ex⟩:=ht
     rw [hb] at hb';cases hb'
     have h0:off=0:=by
      have:offP t' []=some (0,t'):=by cases t'<;>rfl
      simp only [obPos,this,yaH,yaG] at hp
      exact hp.symm
     subst h0
     have hT:cx.ty T=some t':=tyIs_eq hc
     have hlen:(sets vs us).length=t'.n:=by
      rw [<-hr.length]
      clear hh hus
      induction us with
      | nil=>rfl
      | cons u A ih=>rw [sets,List.length_set,ih]
     have hl:=(hcx.ty T t' hT).loadN (b:=b) (off:=0) (w:=w) hlen hag ⟨_,_,_,hh,fun j v hj=>by simpa using hj⟩
     refine ⟨.agg (sets vs us).toArray::vs',⟨?_,h1⟩,⟨vs,us,rfl,hr,hus⟩,h2⟩
     show (resv a.tmps (.cell t T)).run K.P w=_
     rw [show resv a.tmps (.cell t T)=(do loadVar T (<-asAddr (a.tmps.getD t undef))) from rfl,ex]
     simpa [Instr.loadAt,Instr.sureAddr,asAddr] using hl
    ·cases hr
   ·cases hr
  ·cases hr
end
theorem zeO:∀ {l:List SV} {t:Nat},initEnv l t=match l[t]? with | some v=>⟨[],.s v⟩ | none=>⟨[],.un⟩
 | [],t=>by simp [initEnv]
 | v::l,0=>rfl
 | v::l,t+1=>by simp only [initEnv];rw [zeO];rfl
theorem zkf {P:Program} {s:ASt} {β:Nat->Loc} {a:Act} {w:World} {M:Nat->Prop} {l:List SV} {vs:List Value} {r:Array Value} (h:All2 (SVRep P s β w M) l vs) (t:Nat):EntRep P s β a w M (initEnv l t) ((vs.toArray++r).getD t undef):=by
 rw [zeO]
 cases hl:l[t]? with
 | none=>exact ⟨fun _=>trivial,fun hh=>absurd (fun x hx=>by cases hx) hh⟩
 | some v =>
  refine ⟨fun _=>?_,fun hh=>absurd (fun x hx=>by cases hx) hh⟩
  have hlt:t<l.length:=(List.getElem?_eq_some_iff.1 hl).1
  have hlen:=h.length
  obtain ⟨u,hu⟩:∃ u,vs[t]?=some u:=⟨vs[t]'(by omega),List.getElem?_eq_getElem (by omega)⟩
  obtain ⟨v',hv',hr⟩:=h.get hu
  rw [hl] at hv';cases hv'
  have e:(vs.toArray++r).getD t undef=u:=by
   rw [ycV,ydk (by simp;omega)]
   simp [hu]
  rw [e];exact hr
theorem zk {l:List SV} {obs:Nat->Option (Option Ob)}:NoG ⟨initEnv l,obs⟩:=by
 intro t
 show (initEnv l t).g=[]
 rw [zeO]
 split<;>rfl
theorem zie {P:Program} {s:ASt} {β:Nat->Loc} {w:World} {M:Nat->Prop}:∀ {ts:List Ty} {vs:List Value} {x:Ds ts},ARep P w M ts vs x->All2 (SVRep P s β w M) ((unDs ts x).map fun v=>.d v.t v.x) vs
 | [],vs,x,h=>by rw [show vs=_ from h];trivial
 | [a],vs,x,h=>by obtain ⟨v,rfl,h⟩:=h;exact ⟨h,trivial⟩
 | a::b::r,vs,x,h=>by
  obtain ⟨v,vs',rfl,h1,h2⟩:=h
  exact ⟨h1,zie h2⟩
theorem ARep.length {P:Program} {w:World} {M:Nat->Prop}:∀ {ts:List Ty} {vs:List Value} {x:Ds ts},ARep P w M ts vs x->vs.length=ts.length
 | [],vs,x,h=>by rw [show vs=_ from h];rfl
 | [a],vs,x,h=>by obtain ⟨v,rfl,h⟩:=h;rfl
 | a::b::r,vs,x,h=>by
  obtain ⟨v,vs',rfl,h1,h2⟩:=h
  simp [ARep.length h2]
theorem rrep_of {P:Program} {w:World} {M:Nat->Prop} {ts:List Ty} {vs:List Value} {dvs:List Dv} {y:Ds ts} (h:All2 (fun (v:Value) (d:Dv)=>VRep P d.t w M v d.x) vs dvs) (hm:mkDs ts dvs=some y):RRep P w M ts (resVal vs) y:=by
 have hA:=zcp h hm
 clear h hm
 match ts,y,vs,hA with
 | [],y,vs,hA=>rw [show vs=_ from hA];exact rfl
 | [a],y,vs,hA=>obtain ⟨v,rfl,hA⟩:=hA;exact hA
 | a::b::r,y,vs,hA =>
  have hl:=hA.length
  refine ⟨vs,?_,hA⟩
  match vs,hl with
  | _::_::_,_=>rfl
def K0 (P:Program) (w:World) (M:Nat->Prop) (nt:Nat):Ctx :=
 {P,w0:=w,Mg:=M,Ml:=fun _=>False,Mf:=fun _=>False,mlf:=fun _ h=>h,nt,pins:=[],fix:=fun _=>none,pos:=fun _=>none,posr:=fun _ _ h=>(by cases h),posk:=fun _ _ h=>(by cases h),nod:=False,gid:=0,J:=fun _ _ _ _=>True,Jst:=fun _ _ _ _ _ _ _ _ _ _=>trivial }
theorem zfj {P:Program} {n:Nat} {f:FuncId} {args:Array Value} {w:World} {R:Ending->World->Prop} (h:CallsIn (FF P none) n P f args w R):CallsX P f args w R:=⟨h.1,fun cs _=>h.2 cs (by intro d hd;cases hd)⟩
theorem nz_end {P:Program} {cx:Cx} {s:ASt} {fn:Func} {s':ASt} {β:Nat->Loc} {w:World} {M:Nat->Prop}:∀ {ts:List Ty} {x:Ds ts} {avs:List AV} {us:List Value},nzEnd cx s fn ts x->resOf cx s fn.results.toList=some avs->All2 (AVRep P s' β w M) avs us ->
  NilZ ts x (match us with
   | [v]=>v
   | l=>.tuple l.toArray):=by
 intro ts x avs us h hr hA t l he hl
 unfold nzEnd at h
 split at h
 ·rename_i t₀ l₀
  cases he
  rw [hr] at h
  split at h
  ·rename_i e t₁ heq
   cases heq
   cases us with
   | nil=>exact hA.elim
   | cons u us =>
    cases us with
    | nil=>exact hA.1
    | cons _ _=>exact hA.2.elim
  ·exact (h hl).elim
  ·exact h.elim
 ·exact h.elim
theorem zjy {P:Program} {f:Nat} {fn:Func} {c:Code} {k:Con} (hf:P.funcs[f]?=some fn) (hb:fn.body=some c) (hm:P.follows .mixedOrders=true) (hlen:fn.results.toList.length<=4) (hargs:k.args.length<=fn.ntmps)
  (hv:∀ x,k.pre x->∃ cx:Cx,CxOk P cx/\cx.yl=none/\cx.nt=fn.ntmps/\vcFun cx fn k x):Holds P f k:=by
 intro w M vs x hlt hA hpre
 obtain ⟨cx,hcx,hyl,hnt,hvc⟩:=hv x hpre
 have hl:=hA.length
 simp only [vcFun,hb] at hvc
 have hfit:Fit (K0 P w M fn.ntmps) cx:=⟨hnt,hm,by rw [hyl];exact ⟨fun _ _ _ _=>trivial,id⟩⟩
 have h0:RelB (K0 P w M fn.ntmps) ⟨initEnv ((unDs k.args x).map fun v=>.d v.t v.x),fun _=>none⟩ { tmps:=vs.toArray++yde (fn.ntmps - vs.toArray.size) undef,defers:=[] } w (fun _=>⟨none,.slice none 0 0,[]⟩):=by
  refine ⟨.refl _ _,hlt,fun _ _ _ h=>(by cases h),fun _ _ h=>(by cases h),fun _ _ _ _ _ h=>(by cases h),fun _ _ _ h=>(by cases h),?_,?_,fun _ h=>(by cases h),ycA,fun _=>rfl,fun _ h=>(by cases h),trivial,(fun _ _ h=>by cases h),(fun _ _ h=>by cases h),fun _ _ h=>(by cases h)⟩
  ·intro t
   refine zkf (zie (hA.tr ⟨.refl _ _,fun b _ hm=>?_⟩)) t
   rcases hm with hm | ⟨o,ob,h1,_⟩
   ·exact hm
   ·cases h1
  ·simp only [ybE,ydl,ybu]
   show _=fn.ntmps
   omega
 refine zfj (n:=0) (callsIn_of_wp_marks hf hb (by show (P.funcs[f]?).isSome=true;rw [hf];rfl) ?_)
 refine zjL ziO zhc c (K0 P w M fn.ntmps) none 0 hcx hfit trivial (fun _ _=>rfl) M _ _ _ _ _ _ hvc h0 zk ?_ fun _ _ _ h=>h.elim
 intro M' hM' e s a w' β' hq h hn
 have hM':=hM' hyl
 subst hM'
 have fin:(match ((resOf cx s fn.results.toList).bind (optAll (AV.dv cx s))).bind (fun l=>mkDs k.res (coes k.res l)) with
   | some y=>match k.nz with
    | false=>Z.same y (k.val x)
    | true=>Z.same y (k.val x)/\nzEnd cx s fn k.res (k.val x)
   | none=>False)->LeavesInM (FF P none) 0 P fn a.tmps (fun e w''=>∃ v,e=.returned v/\Ext noM w w''/\RRep P w'' M' k.res v (k.val x)/\(k.nz=true->NilZ k.res (k.val x) v)) a.defers .returning w':=by
  intro hq
  split at hq
  ·rename_i y hy
   obtain ⟨hq,hnz⟩:y=k.val x/\(k.nz=true->nzEnd cx s fn k.res (k.val x)):=by
    cases hz:k.nz with
    | false=>rw [hz] at hq;exact ⟨hq,fun h=>by cases h⟩
    | true=>rw [hz] at hq;exact ⟨hq.1,fun _=>hq.2⟩
   subst hq
   simp only [Option.bind_eq_some_iff] at hy
   obtain ⟨dvs,⟨avs,hr,hd⟩,hmk⟩:=hy
   refine leaves (fun d hd=>by obtain ⟨D,e1,e2,_⟩:=h.defs d hd;exact ⟨D,e1,e2⟩) h.dnd fun w'' h1 h2 hio=>?_
   obtain ⟨h3,h4⟩:=h.left rfl h1 h2 hio
   obtain ⟨us,r1,r2⟩:=res_rep hcx h3 hn hr
   refine ⟨_,zjt (by simp) hlen r1,_,rfl,⟨h3.frame.1,fun b hb' hm=>h3.frame.2 b hb' id,h3.frame.io⟩,?_⟩
   refine ⟨rrep_of (zg _ (avs_rep hcx h3 r2 (zay hd) (zb h3 fun q hq=>by
    obtain ⟨av,_,hq⟩:=List.mem_flatMap.1 hq
    exact zaF hq))) hmk,fun hz=>nz_end (hnz hz) hr r2⟩
  ·exact hq.elim
 cases e with
 | normal=>exact fin hq
 | ret=>exact fin hq
 | _=>exact hq.elim
end Go.Sx
/-
 The symbolic layer,part 29: iterators.
-/
namespace Go.Sx
theorem YieldAt.mono' {P:Program} {l:Nat} {us:Array Value} {w:World} {R R':Ending->World->Prop} (h:YieldAt (FF P none) 0 P l us w R) (hr:∀ e w',R e w'->R' e w'):YieldAt (FF P none) 0 P l us w R':=by
 obtain ⟨fn,tmps,x,y,h1,h2⟩:=h
 exact ⟨fn,tmps,x,y,h1,h2.mono hr⟩
def JI {elt:Ty} (J Jx:List elt.D->(Nat->Prop)->(Nat->Prop)->World->Prop) (g:Option Dv) (G M:Nat->Prop) (w:World):Prop :=
 ∃ (l:List elt.D) (b:Bool),g=some ⟨yTy elt,(l,b)⟩/\(b=false->J l G M w)/\(b=true->Jx l G M w)
theorem JI_inj {elt:Ty} {J Jx:List elt.D->(Nat->Prop)->(Nat->Prop)->World->Prop} {p:List elt.D} {b:Bool} {G M:Nat->Prop} {w:World} (h:JI J Jx (some ⟨yTy elt,(p,b)⟩) G M w):(b=false->J p G M w)/\(b=true->Jx p G M w):=by
 obtain ⟨l,b',e,h1,h2⟩:=h
 have e:=yaA e
 injection e with _ e
 have e:(p,b)=(l,b'):=e
 cases e
 exact ⟨h1,h2⟩
theorem JI_st {elt:Ty} {w:World} {J Jx:List elt.D->(Nat->Prop)->(Nat->Prop)->World->Prop} (hst:Stab w J) (hstx:Stab w Jx) (g:Option Dv) (G M:Nat->Prop) (w₁:World) (G':Nat->Prop) (w':World)
  (h:JI J Jx g G M w₁) (ht:TrD w.heap.size M G w₁ G' w') (hG:∀ b,G b->¬ M b/\(w.heap.size<=b\/False)) (hG':∀ b,G' b->b<w'.heap.size):JI J Jx g G' M w':=by
 obtain ⟨l,b,e,h1,h2⟩:=h
 have hg:∀ b,G b->¬ M b/\w.heap.size<=b:=fun b hg=>⟨(hG b hg).1,(hG b hg).2.resolve_right id⟩
 exact ⟨l,b,e,fun hb=>hst l G M w₁ G' w' (h1 hb) ht hg hG',fun hb=>hstx l G M w₁ G' w' (h2 hb) ht hg hG'⟩
theorem ziS {P:Program} {f:Nat} {fn:Func} {c:Code} {k:ICon} (hf:P.funcs[f]?=some fn) (hb:fn.body=some c) (hm:P.follows .mixedOrders=true) (hres:fn.results=#[]) (hargs:k.args.length+1<=fn.ntmps)
  (hv:∀ x ly,k.pre x->∃ cx gid,CxOk P cx/\cx.yl=some ⟨ly,gid,k.two,k.elt,k.seq x⟩/\cx.nt=fn.ntmps/\vcIter cx fn k x):HoldsI P f k:=by
 intro w M vs x hlt hA hpre ly J Jx Jp hst hstx hltJ hltJx hstp hround hJ0
 obtain ⟨cx,gid,hcx,hyl,hnt,hvc⟩:=hv x ly hpre
 have hl:=hA.length
 simp only [vcIter,hb,hyl] at hvc
 obtain ⟨K,hK⟩:∃ K:Ctx,K={ P,w0:=w,Mg:=M,Ml:=fun _=>False,Mf:=fun _=>True,mlf:=fun _ h=>trivial,nt:=fn.ntmps,pins:=[],fix:=fun _=>none,pos:=fun _=>none,posr:=fun _ _ h=>(by cases h),posk:=fun _ _ h=>(by cases h),nod:=False,gid:=gid,J:=JI J Jx,Jst:=JI_st hst hstx,jp:=Jp,jpst:=hstp }:=⟨_,rfl⟩
 have hKP:K.P=P:=by rw [hK]
 have hKJ:K.J=JI J Jx:=by rw [hK]
 have hKg:K.gid=gid:=by rw [hK]
 have hKw:K.w0=w:=by rw [hK]
 have hfit:Fit K cx:=by
  refine ⟨by rw [hK];exact hnt,by rw [hK];exact hm,?_⟩
  rw [hyl]
  refine ⟨hKg,by rw [hK];exact id,fun _ _ _ _ _ _ _ _ _=>(by rw [hK];trivial),fun _ _ _ _ _ x hx=>(by rw [hK] at hx;cases hx),?_,?_⟩
  ·rw [hKJ]
   rintro g G M w' ⟨l,b,e,h1,h2⟩
   cases b with
   | false=>exact hltJ l G M w' (h1 rfl)
   | true=>exact hltJx l G M w' (h2 rfl)
  ·intro p e r G M w' us hall hj hre hG hG2
   rw [hKJ] at hj ⊢
   rw [hKw] at hG
   rw [hKP] at hre ⊢
   have hG:∀ b,G b->¬ M b/\w.heap.size<=b:=fun b hb=>⟨(hG b hb).1,(hG b hb).2.resolve_right (by rw [hK];exact id)⟩
   have hMx:∀ b,¬ K.Mx b:=fun b=>by rw [hK];exact id
   refine YieldAt.mono' (hround p e r G M w' us hall ((JI_inj hj).1 rfl) hre hG hG2) ?_
   rintro r' w₂ (⟨h1,M₂,h2,h3⟩ | ⟨h1,M₂,h2,h3⟩ | ⟨ch,h1,h2,h3⟩)
   ·exact .inl ⟨h1,M₂,⟨_,false,rfl,fun _=>h2,fun h=>by cases h⟩,h3.1.mono fun b _ hb=>⟨hb,hMx b⟩,h3.2⟩
   ·exact .inr (.inl ⟨h1,M₂,⟨_,true,rfl,fun h=>(by cases h),fun _=>h2⟩,h3.1.mono fun b _ hb=>⟨hb,hMx b⟩,h3.2⟩)
   ·exact .inr (.inr ⟨ch,h1,by rw [hK];exact h2,h3.mono fun b _ hb=>⟨hb,hMx b⟩⟩)
 obtain ⟨s0,hs0⟩:∃ s0:ASt,s0=iterS gid ly k.elt x:=⟨_,rfl⟩
 have hgid:s0.obs gid=some (some (.gh (yTy k.elt) ([],false))):=by rw [hs0];simp only [iterS,Nat.beq_refl,cond_true]
 have hobs:∀ o ob,s0.obs o=some (some ob)->ob=.gh (yTy k.elt) ([],false):=by
  intro o ob ho
  rw [hs0] at ho
  simp only [iterS] at ho
  cases hb':Nat.beq o gid with
  | true=>rw [hb'] at ho;cases ho;rfl
  | false=>rw [hb'] at ho;cases ho
 have hown:Own s0 (fun _=>⟨none,.slice none 0 0,[]⟩)=fun _=>False:=by
  funext b
  refine propext ⟨?_,fun h=>h.elim⟩
  rintro ⟨o,ob,_,_,h3⟩
  cases one_blk h3
 have h0:RelB K s0 { tmps:=(#[Value.func (.yield ly) #[] #[]]++vs.toArray)++yde (fn.ntmps - (#[Value.func (.yield ly) #[] #[]]++vs.toArray).size) undef,defers:=[] } w (fun _=>⟨none,.slice none 0 0,[]⟩):=by
  refine ⟨?_,?_,fun _ _ _ _ h=>(by cases one_blk h),?_,fun _ _ _ _ _ _ _ h=>(by cases one_blk h),fun _ _ _ _ _ h=>(by cases one_blk h),?_,?_,fun _ h=>(by cases h),ycA,fun _=>rfl,?_,?_,?_,?_,fun _ _ _ _=>rfl⟩
  ·rw [hK];exact .refl _ _
  ·rw [hK];exact hlt
  ·intro o ob ho
   rw [hobs o ob ho];rfl
  ·intro t
   have hML:∀ b,Mset K.Mg s0 (fun _=>⟨none,.slice none 0 0,[]⟩) b->M b:=by
    rintro b (hb' | hb')
    ·rw [hK] at hb';exact hb'
    ·rw [hown] at hb';exact hb'.elim
   cases t with
   | zero =>
    have he:s0.env 0=⟨[],.yl ly⟩:=by rw [hs0];rfl
    have e:((#[Value.func (.yield ly) #[] #[]]++vs.toArray)++yde (fn.ntmps - (#[Value.func (.yield ly) #[] #[]]++vs.toArray).size) undef).getD 0 undef=Value.func (.yield ly) #[] #[]:=by
     rw [ycV,ydm,ydk (by simp)]
     rfl
    rw [he,e]
    exact ⟨fun _=>rfl,fun hh=>absurd (fun x hx=>by cases hx) hh⟩
   | succ t =>
    have:=zkf (P:=K.P) (s:=s0) (β:=fun _=>⟨none,.slice none 0 0,[]⟩) (a:={ tmps:=(#[Value.func (.yield ly) #[] #[]]++vs.toArray)++yde (fn.ntmps - (#[Value.func (.yield ly) #[] #[]]++vs.toArray).size) undef,defers:=[] }) (w:=w) (M:=Mset K.Mg s0 (fun _=>⟨none,.slice none 0 0,[]⟩)) (r:=yde (fn.ntmps - (#[Value.func (.yield ly) #[] #[]]++vs.toArray).size) undef) (zie (s:=s0) (β:=fun _=>⟨none,.slice none 0 0,[]⟩) (by rw [hKP];exact hA.tr ⟨.refl _ _,fun b _ hm=>hML b hm⟩)) t
    have he:s0.env (t+1)=initEnv ((unDs k.args x).map fun v=>.d v.t v.x) t:=by rw [hs0];rfl
    have e:((#[Value.func (.yield ly) #[] #[]]++vs.toArray)++yde (fn.ntmps - (#[Value.func (.yield ly) #[] #[]]++vs.toArray).size) undef).getD (t+1) undef=(vs.toArray++yde (fn.ntmps - (#[Value.func (.yield ly) #[] #[]]++vs.toArray).size) undef).getD t undef:=by
     rw [ycV,ycV,ydm,Array.getElem?_append_right (by simp)]
     simp
    rw [he,e]
    exact this
  ·rw [hK]
   simp only [ybE,ydl,ybu,List.length_cons,List.length_nil]
   omega
  ·rw [hK];exact fun _ h=>by cases h
  ·rw [hKg,hgid,hown,hKJ]
   refine ⟨[],false,rfl,fun _=>?_,fun h=>by cases h⟩
   rw [hK];exact hJ0
  ·rw [hK];exact fun _ _ h=>by cases h
  ·rw [hK];exact fun _ _ h=>by cases h
 have hng:NoG s0:=by
  intro t
  rw [hs0]
  cases t with
  | zero=>rfl
  | succ t=>exact zk (l:=(unDs k.args x).map fun v=>.d v.t v.x) (obs:=fun _=>none) t
 rw [<-hs0] at hvc
 refine zfj (n:=0) (callsIn_of_wp_marks hf hb (by show (P.funcs[f]?).isSome=true;rw [hf];rfl) ?_)
 have hwp:=zjL ziO zhc c K none 0 (by rw [hKP];exact hcx) hfit trivial (by rw [hK];exact fun _ _=>rfl) K.Mg _ (bodyPostM (FF P none) 0 P fn (fun r w'=>((∃ v,r=.returned v)/\((∃ M,J (k.seq x) (fun _=>False) M w')\/∃ p M,Jx p (fun _=>False) M w'))\/∃ ch,r=.panicked ch/\Jp ch w')) _ _ _ _ hvc (show RelB (K.mg K.Mg) s0 _ w _ from h0) hng ?_ ?_
 ·rw [hKP] at hwp;exact hwp
 ·intro M' hM' e s a w' β' hq h hn
  have hgh:K.J (ghOf (s.obs K.gid)) (Own s β') M' w':=h.gh
  rw [hKg,hKJ] at hgh
  have hside:∀ b,Own s β' b->¬ M' b/\w.heap.size<=b:=by
   rintro b ⟨o,ob,h1,h2,h3⟩
   refine ⟨h.dis o ob b h1 h3,?_⟩
   have:=h.rng o ob b h1 h2 h3
   rw [show (K.mg M').w0=w from hKw] at this
   exact this.resolve_right (by show ¬ K.Ml b;rw [hK];exact id)
  have fin:(iterQ gid k.elt (k.seq x) s)->LeavesInM (FF P none) 0 P fn a.tmps (fun r w'=>((∃ v,r=.returned v)/\((∃ M,J (k.seq x) (fun _=>False) M w')\/∃ p M,Jx p (fun _=>False) M w'))\/∃ ch,r=.panicked ch/\Jp ch w') a.defers .returning w':=by
   intro hq
   refine leaves (fun d hd=>by obtain ⟨D,e1,e2,_⟩:=h.defs d hd;exact ⟨D,e1,e2⟩) h.dnd fun w'' h1 h2 hio=>?_
   have htr:TrD w.heap.size M' (Own s β') w' (fun _=>False) w'':=by
    refine ⟨⟨yaK h1.symm,fun b _ _=>?_,hio⟩,fun _ _ h=>h.elim⟩
    by_cases hm:b∈a.defers.map dof
    ·obtain ⟨d,hd,e⟩:=ycp.1 hm
     obtain ⟨D,rfl,hD,k1,k2⟩:=h.defs d hd
     have e:D=b:=e
     subst e
     exact .inr ⟨by rw [<-hKw];exact k2,k1,_,hD,rfl⟩
    ·exact .inl (h2 b hm)
   unfold iterQ at hq
   refine ⟨_,results_none hres _ _ _,.inl ⟨⟨_,rfl⟩,?_⟩⟩
   split at hq
   ·rename_i t z hobz
    split at hq
    ·rename_i l hcl
     rw [hobz] at hgh
     obtain ⟨e1,e2⟩:=zag hcl
     cases e1
     have e2:l=z.1:=e2
     subst e2
     have hgh:=JI_inj (p:=z.1) (b:=z.2) hgh
     cases hz:z.2 with
     | false =>
      have hall:z.1=k.seq x:=hq hz
      left
      refine ⟨M',?_⟩
      rw [<-hall]
      exact hst _ _ _ _ _ _ (hgh.1 hz) htr hside (fun _ h=>h.elim)
     | true =>
      exact .inr ⟨z.1,M',hstx _ _ _ _ _ _ (hgh.2 hz) htr hside (fun _ h=>h.elim)⟩
    ·exact hq.elim
   ·exact hq.elim
  cases e with
  | normal=>exact fin hq
  | ret=>exact fin hq
  | _=>exact hq.elim
 ·intro ch a w' h1 hdf hdn
  have h1:Jp ch w':=by rw [hK] at h1;exact h1
  show LeavesInM _ _ _ _ _ _ a.defers _ _
  refine leavesP (fun d hd=>by obtain ⟨D,e1,e2,_⟩:=hdf d hd;exact ⟨D,e1,e2⟩) hdn fun w'' k1 k2 hio=>.inr ⟨ch,rfl,hstp _ _ _ h1 ⟨yaK k1.symm,fun b _ _=>?_,hio⟩⟩
  by_cases hm:b∈a.defers.map dof
  ·obtain ⟨d,hd,e⟩:=ycp.1 hm
   obtain ⟨D,rfl,hD,k3⟩:=hdf d hd
   have e:D=b:=e
   subst e
   exact .inr ⟨by rw [hKw] at k3;exact k3,id,_,hD,rfl⟩
  ·exact .inl (k2 b hm)
end Go.Sx
/-
 The symbolic layer,part 30: functions that are lent objects.
-/
namespace Go.Sx
theorem SV.within_sub {l l':List Nat} (h:∀ o∈l,o∈l') {v:SV} (hv:v.within l=true):v.within l'=true:=by
 cases v with
 | d _ _=>rfl
 | nl _ _=>rfl
 | ptr o _=>exact zf (h o (zac.1 hv))
 | os o=>exact zf (h o (zac.1 hv))
 | mp o=>exact zf (h o (zac.1 hv))
structure FinF (s:ASt) (f:Nat) (caps:List SV) (m:MInv) (args:List AK) (i:Nat) (bs:List Dv):Prop where
 len:bs.length=(AK.boxes args).length
 obs:∀ o ob,(o,ob)∈cFin f caps m args i bs->s.obs o=some (some ob)/\o∈lentIds args i/\isRow ob=false/\∀ v,ob=.bv v->(∃ q,v=.s q/\q.within (lentIds args i)=true)\/v=.clo f caps
 all:∀ o∈lentIds args i,∃ ob,(o,ob)∈cFin f caps m args i bs
theorem FinF.cons {s:ASt} {f:Nat} {caps:List SV} {m:MInv} {k:AK} {r:List AK} {i:Nat} {b bs:List Dv} {l:List (Nat × Ob)} (h:FinF s f caps m r (i+1) bs) (hlen:(AK.boxes (k::r)).length=b.length+(AK.boxes r).length)
  (h1:cFin f caps m (k::r) i (b++bs)=l++cFin f caps m r (i+1) bs) (h2:lentIds (k::r) i=l.map (·.1)++lentIds r (i+1))
  (h3:∀ o ob,(o,ob)∈l->s.obs o=some (some ob)/\isRow ob=false/\∀ v,ob=.bv v->(∃ q,v=.s q/\q.within (l.map (·.1))=true)\/v=.clo f caps):FinF s f caps m (k::r) i (b++bs):=by
 refine ⟨by rw [List.length_append,hlen,h.len],?_,?_⟩
 ·intro o ob hm
  rw [h1] at hm
  rw [h2]
  rcases yas.1 hm with hm | hm
  ·obtain ⟨g1,g2,g3⟩:=h3 o ob hm
   exact ⟨g1,yas.2 (.inl (ycp.2 ⟨_,hm,rfl⟩)),g2,fun v e=>(g3 v e).imp (fun ⟨q,e,hq⟩=>⟨q,e,SV.within_sub (fun o ho=>yas.2 (.inl ho)) hq⟩) id⟩
  ·obtain ⟨g1,g2,g3,g4⟩:=h.obs o ob hm
   exact ⟨g1,yas.2 (.inr g2),g3,fun v e=>(g4 v e).imp (fun ⟨q,e,hq⟩=>⟨q,e,SV.within_sub (fun o ho=>yas.2 (.inr ho)) hq⟩) id⟩
 ·intro o ho
  rw [h2] at ho
  rw [h1]
  rcases yas.1 ho with ho | ho
  ·obtain ⟨⟨o',ob⟩,hm,rfl⟩:=ycp.1 ho
   exact ⟨ob,yas.2 (.inl hm)⟩
  ·obtain ⟨ob,hm⟩:=h.all o ho
   exact ⟨ob,yas.2 (.inr hm)⟩
section
variable {P:Program} {s:ASt} {β β₁ β':Nat->Loc} {fin:Nat->Option (Option Ob)} {w:World} {M M':Nat->Prop} {L:List Nat}
end
structure LendF (P:Program) (s:ASt) (β₁:Nat->Loc) (ids:List Nat) (fin:Nat->Option (Option Ob)) (β':Nat->Loc) (w:World) (M:Nat->Prop):Prop where
 lent:Lent P (bare fin) β' w M
 sub:∀ b,Mset M (bare fin) β' b->Mset M s β₁ b
 src:∀ o ob,fin o=some (some ob)->∀ b,(β' o).has b->∃ p,s.obs p=some (some ob)/\(β₁ p).has b/\(p∈ids\/fin rid=some (some ob)/\isRow ob=true)
def posOf (obs:Nat->Option (Option Ob)) (β:Nat->Loc) (o:Nat):Option (Ob->Loc->Prop):=match obs o with
 | some (some ob)=>if isRow ob=false/\200000<=o then some (fun ob' L=>isRow ob'=false/\L.blk=(β o).blk/\L.sub=(β o).sub) else none
 | _=>none
theorem zhe {obs:Nat->Option (Option Ob)} {β:Nat->Loc} {o:Nat} {p:Ob->Loc->Prop} (h:posOf obs β o=some p):200000<=o/\p=(fun ob' L=>isRow ob'=false/\L.blk=(β o).blk/\L.sub=(β o).sub)/\∃ ob,obs o=some (some ob)/\isRow ob=false:=by
 unfold posOf at h
 split at h
 ·rename_i ob ho
  split at h
  ·rename_i hc
   cases h
   exact ⟨hc.2,rfl,ob,ho,hc.1⟩
  ·cases h
 ·cases h
def K1 (P:Program) (w:World) (M:Nat->Prop) (nt:Nat) (obs:Nat->Option (Option Ob)) (β:Nat->Loc):Ctx :=
 {P,w0:=w,Mg:=M,Ml:=Own (bare obs) β,Mf:=Own (bare obs) β,mlf:=fun _ h=>h,nt,pins:=[],fix:=fun _=>none,pos:=posOf obs β,posr:=fun _ _ h=>(zhe h).1,posk:=fun _ _ h _ _ _ hl hp=>(by rw [(zhe h).2.1] at hp ⊢;exact ⟨hl.2.1▸hp.1,hp.2⟩),nod:=False,gid:=0,J:=fun _ _ _ _=>True,Jst:=fun _ _ _ _ _ _ _ _ _ _=>trivial }
end Go.Sx
/-
 The symbolic layer,part 30b: calls that are carried out in place: the callee's side.
-/
namespace Go.Sx
end Go.Sx
/-
 The symbolic layer,part 31: functions that call themselves;contracts that are narrowed.
-/
namespace Go.Sx
theorem zj {P:Program} {f:Nat} {fn:Func} {c:Code} (hf:P.funcs[f]?=some fn) (hname:(fn.name == "runtime.NumGoroutine")=false) (hb:fn.body=some c):Enters P f:=by
 intro args w
 have h1:fn.name ≠ "runtime.NumGoroutine" := by simpa using hname
 simp [callFunc,hf,h1,hb]
end Go.Sx
