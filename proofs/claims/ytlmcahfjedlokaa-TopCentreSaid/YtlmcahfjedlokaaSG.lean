/-
  The symbolic layer, part 28: functions that are given data and give data.
-/
import Derived.Test.YtlmcahfjedlokaaSF
import Derived.RangeFuncLeaves
set_option linter.all false
namespace Go.Sx
def resv (tmps:Array Value):ResultVar→Sem Value
 | .tmp t=>pure (tmps.getD t undef)
 | .cell a t=>do loadVar t (←asAddr (tmps.getD a undef))
def resVal:List Value→Value
 | [v]=>v
 | l=>.tuple l.toArray
theorem results_eq (fn:Func) (tmps:Array Value):results fn tmps=(do let vs ←fn.results.mapM (resv tmps);pure (if h:vs.size=1 then vs[0] else .tuple vs)):=by
 unfold results
 have e:(fun x:ResultVar=>match x with
   | .tmp t=>(pure (tmps.getD t undef):Sem Value)
   | .cell a t=>do loadVar t (←asAddr (tmps.getD a undef)))=resv tmps:=by funext x;cases x<;>rfl
 rw [←e]
 rfl
theorem results_run {P:Program} {fn:Func} {tmps:Array Value} {w:World}:∀ {l:List ResultVar} {vs:List Value},fn.results=l.toArray→l.length≤4→All2 (fun r v=>(resv tmps r).run P w=.ok v w) l vs→(results fn tmps).run P w=.ok (resVal vs) w
 | [],[],h,_,_=>by rw [results_eq,h];simp [resVal]
 | [r],[v],h,_,hr=>by
  have h1:=hr.1
  rw [results_eq,h]
  simp [Sem.run_bind,h1,Result.andThen,resVal]
 | [r1,r2],[v1,v2],h,_,hr=>by
  have h1:=hr.1;have h2:=hr.2.1
  rw [results_eq,h]
  simp [Sem.run_bind,h1,h2,Result.andThen,resVal]
 | [r1,r2,r3],[v1,v2,v3],h,_,hr=>by
  have h1:=hr.1;have h2:=hr.2.1;have h3:=hr.2.2.1
  rw [results_eq,h]
  simp [Sem.run_bind,h1,h2,h3,Result.andThen,resVal]
 | [r1,r2,r3,r4],[v1,v2,v3,v4],h,_,hr=>by
  have h1:=hr.1;have h2:=hr.2.1;have h3:=hr.2.2.1;have h4:=hr.2.2.2.1
  rw [results_eq,h]
  simp [Sem.run_bind,h1,h2,h3,h4,Result.andThen,resVal]
 | _::_::_::_::_::_,_,_,hl,_=>by simp at hl
 | [],_::_,_,_,hr=>hr.elim
 | [_],[],_,_,hr=>hr.elim
 | [_],_::_::_,_,_,hr=>hr.2.elim
 | [_,_],[],_,_,hr=>hr.elim
 | [_,_],[_],_,_,hr=>hr.2.elim
 | [_,_],_::_::_::_,_,_,hr=>hr.2.2.elim
 | [_,_,_],[],_,_,hr=>hr.elim
 | [_,_,_],[_],_,_,hr=>hr.2.elim
 | [_,_,_],[_,_],_,_,hr=>hr.2.2.elim
 | [_,_,_],_::_::_::_::_,_,_,hr=>hr.2.2.2.elim
 | [_,_,_,_],[],_,_,hr=>hr.elim
 | [_,_,_,_],[_],_,_,hr=>hr.2.elim
 | [_,_,_,_],[_,_],_,_,hr=>hr.2.2.elim
 | [_,_,_,_],[_,_,_],_,_,hr=>hr.2.2.2.elim
 | [_,_,_,_],_::_::_::_::_::_,_,_,hr=>hr.2.2.2.2.elim
theorem leaves {P:Program} {n:Nat} {fn:Func} {tmps:Array Value} {R:Ending→World→Prop}:∀ {ds:List Deferred} {w:World},(∀ d∈ds,∃ D,d={ target:=.collected D,args:=#[] }∧w.heap[D]?=some (.deferred (some [])))→(ds.map dof).Nodup →
  (∀ w':World,w'.heap.size=w.heap.size→(∀ b,b∉ds.map dof→w'.heap[b]?=w.heap[b]?)→(w'.os=w.os∧w'.output=w.output)→∃ v,(results fn tmps).run P w'=.ok v w'∧R (.returned v) w')→LeavesInM (FF P none) n P fn tmps R ds .returning w
 | [],w,_,_,h=>h w rfl (fun _ _=>rfl) ⟨rfl,rfl⟩
 | d::ds,w,hd,hn,h=>by
  obtain ⟨D,rfl,hD⟩:=hd d List.mem_cons_self
  have hn:=List.nodup_cons.1 (show (D::ds.map dof).Nodup from hn)
  refine ⟨by simp,.inl ⟨D,w.putObj D (.deferred none),rfl,run_takeDeferred hD,leaves ?_ hn.2 ?_⟩⟩
  ·intro d' hd'
   obtain ⟨D',rfl,hD'⟩:=hd d' (List.mem_cons_of_mem _ hd')
   refine ⟨D',rfl,(World.putObj_heap_other fun e=>?_).trans hD'⟩
   subst e
   exact hn.1 (List.mem_map.2 ⟨_,hd',rfl⟩)
  ·intro w' h1 h2 h3
   refine h w' (h1.trans (by simp)) (fun b hb=>?_) h3
   have hb:b∉D::ds.map dof:=hb
   simp only [List.mem_cons,not_or] at hb
   exact (h2 b hb.2).trans (World.putObj_heap_other hb.1)
section
variable {K:Ctx} {cx:Cx} {s:ASt} {a:Act} {w:World} {β:Nat→Loc}
theorem RelB.left (h:RelB K s a w β) (hp:K.pins=[]) {w':World} (h1:w'.heap.size=w.heap.size) (h2:∀ b,b∉a.defers.map dof→w'.heap[b]?=w.heap[b]?) (hio:w'.os=w.os∧w'.output=w.output) :
  RelB K s { a with defers:=[] } w' β∧∀ b,b<K.w0.heap.size→w'.heap[b]?=w.heap[b]?:=by
 have hob:∀ o ob b,s.obs o=some (some ob)→(β o).has b→w'.heap[b]?=w.heap[b]?:=by
  intro o ob b ho hb
  refine h2 b fun hm=>?_
  obtain ⟨d,hd,e⟩:=List.mem_map.1 hm
  obtain ⟨D,rfl,hD,_⟩:=h.defs d hd
  have e:D=b:=e
  subst e
  exact obj_not_loop h ho hb hD rfl
 have hlow:∀ b,b<K.w0.heap.size→w'.heap[b]?=w.heap[b]?:=by
  intro b hb
  refine h2 b fun hm=>?_
  obtain ⟨d,hd,e⟩:=List.mem_map.1 hm
  obtain ⟨D,rfl,_,_,hD⟩:=h.defs d hd
  have e:D=b:=e
  omega
 have hL:ExtL noM w w':=⟨Nat.le_of_eq h1.symm,fun b hb _ hm=>h2 b fun hmm=>by
  obtain ⟨d,hd,e⟩:=List.mem_map.1 hmm
  obtain ⟨D,rfl,hD,_⟩:=h.defs d hd
  have e:D=b:=e
  subst e
  have:=hm _ hD
  cases this⟩
 have hcc:Compat s β s β:=.refl _ _
 have ht:Tr (Mset K.Mg s β) w (Mset K.Mg s β) w':=(hL.mono fun _ _ h=>h.elim).tr
 refine ⟨⟨⟨(by rw [h1];exact h.frame.1),fun b hb hn=>(hlow b hb).trans (h.frame.2 b hb hn),hio.1.trans h.frame.io.1,hio.2.trans h.frame.io.2⟩,(fun b hb=>by rw [h1];exact h.mg b hb),h.dis,?_,h.inj,h.rng,?_,h.size,(fun d hd=>by cases hd),List.nodup_nil,(fun _=>rfl),?_,?_,h.fix,h.posC hcc,h.sb⟩,hlow⟩
 ·intro o ob ho
  exact (h.ob o ob ho).next hcc ht fun b hb=>hob o ob b ho hb
 ·intro t
  exact ⟨fun hg=>((h.env t).1 hg).next hcc ht,(h.env t).2⟩
 ·intro x hx
  rw [hp] at hx;cases hx
 ·refine K.Jst _ _ _ _ _ _ h.gh ⟨⟨Nat.le_of_eq h1.symm,fun b _ _=>?_,hio⟩,fun _ _ h=>h⟩ ?_ ?_
  ·by_cases hm:b∈a.defers.map dof
   ·obtain ⟨d,hd,e⟩:=List.mem_map.1 hm
    obtain ⟨D,rfl,hD,k1,k2⟩:=h.defs d hd
    have e:D=b:=e
    subst e
    exact .inr ⟨k2,k1,_,hD,rfl⟩
   ·exact .inl (h2 b hm)
  ·rintro b ⟨o,ob,k1,k2,k3⟩
   exact ⟨h.dis o ob b k1 k3,h.rng o ob b k1 k2 k3⟩
  ·rintro b ⟨o,ob,k1,k2,k3⟩
   rw [h1];exact h.blk_lt k1 k3
theorem res_rep (hcx:CxOk K.P cx) (h:RelB K s a w β) (hn:NoG s):∀ {l:List ResultVar} {avs:List AV},resOf cx s l=some avs→∃ vs,All2 (fun r v=>(resv a.tmps r).run K.P w=.ok v w) l vs∧All2 (AVRep K.P s β w (Mset K.Mg s β)) avs vs
 | [],avs,hr=>by
  simp only [resOf,Option.some.injEq] at hr
  subst hr
  exact ⟨[],trivial,trivial⟩
 | .tmp t::l,avs,hr=>by
  simp only [resOf,Option.map_eq_some_iff] at hr
  obtain ⟨avs',hr,rfl⟩:=hr
  obtain ⟨vs,h1,h2⟩:=res_rep hcx h hn hr
  exact ⟨a.tmps.getD t undef::vs,⟨rfl,h1⟩,(h.env t).1 (by rw [hn t];intro x hx;cases hx),h2⟩
 | .cell t T::l,avs,hr=>by
  have ht:=(h.env t).1 (by rw [hn t];intro x hx;cases hx)
  simp only [resOf] at hr
  split at hr
  ·rename_i o hv
   rw [hv] at ht
   split at hr
   ·rename_i f ty x ho
    change cond (tyIs cx.ty T ty) _ _=_ at hr
    cases hc:tyIs cx.ty T ty with
    | false =>
     rw [hc] at hr
     simp only [cond_false,Option.bind_eq_some_iff,Option.map_eq_some_iff] at hr
     obtain ⟨v,hz,avs',hr,rfl⟩:=hr
     obtain ⟨vs,h1,h2⟩:=res_rep hcx h hn hr
     unfold szRes at hz
     split at hz
     ·rename_i t y
      split at hz
      ·rename_i t' hT
       obtain ⟨hc2,hz⟩:=cond_opt' hz
       subst hz
       have:=Ty.beq_eq hc2
       subst this
       simp only [AVRep,SVRep,ho] at ht
       obtain ⟨_,b,off,hb,hp,hva⟩:=ht
       obtain ⟨b',cs,e,hb',hh,hrep⟩:=h.ob o _ ho
       rw [hb] at hb';cases hb'
       simp only [obPos,offP_nil,Option.map_some,Option.some.injEq] at hp
       subst hp
       have hl:=(hcx.ty T _ hT).load (w:=w) (b:=b) (off:=0) (sz_sl hrep) ⟨cs.toArray,e,_,hh,fun j v hj=>by simpa using hj⟩
       refine ⟨pack (.sl t') cs::vs,⟨?_,h1⟩,⟨cs,sz_sl hrep,rfl⟩,h2⟩
       show (resv a.tmps (.cell t T)).run K.P w=_
       rw [show resv a.tmps (.cell t T)=(do loadVar T (←asAddr (a.tmps.getD t undef))) from rfl,hva]
       simpa [Instr.loadAt,Instr.sureAddr,asAddr] using hl
      ·cases hz
     ·cases hz
    | true =>
     rw [hc] at hr
     simp only [cond_true,Option.map_eq_some_iff] at hr
     obtain ⟨avs',hr,rfl⟩:=hr
     obtain ⟨vs,h1,h2⟩:=res_rep hcx h hn hr
     simp only [AVRep,SVRep,ho] at ht
     obtain ⟨_,b,off,hb,hp,hva⟩:=ht
     obtain ⟨b',cs,e,hb',hh,hrep⟩:=h.ob o _ ho
     rw [hb] at hb';cases hb'
     have e0:offP ty []=some (0,ty):=by cases ty<;>rfl
     simp only [obPos,e0,Option.map_some,Option.some.injEq] at hp
     subst hp
     have hT:cx.ty T=some ty:=tyIs_eq hc
     have hl:=(hcx.ty T ty hT).load (w:=w) (b:=b) (off:=0) hrep ⟨cs.toArray,e,_,hh,fun j v hj=>by simpa using hj⟩
     refine ⟨pack ty cs::vs,⟨?_,h1⟩,⟨cs,hrep,rfl⟩,h2⟩
     show (resv a.tmps (.cell t T)).run K.P w=_
     rw [show resv a.tmps (.cell t T)=(do loadVar T (←asAddr (a.tmps.getD t undef))) from rfl,hva]
     simpa [Instr.loadAt,Instr.sureAddr,asAddr] using hl
   ·rename_i v ho
    rw [Bool.cond_eq_ite] at hr
    split at hr
    ·rename_i hc
     simp only [Option.map_eq_some_iff] at hr
     obtain ⟨avs',hr,rfl⟩:=hr
     obtain ⟨vs,h1,h2⟩:=res_rep hcx h hn hr
     simp only [AVRep,SVRep,ho] at ht
     obtain ⟨_,b,off,hb,hp,hva⟩:=ht
     obtain ⟨b',u,e,hb',hh,hrep⟩:=h.ob o _ ho
     rw [hb] at hb';cases hb'
     simp only [obPos,Option.some.injEq] at hp
     subst hp
     have h1f:=hcx.one T hc
     refine ⟨u::vs,⟨?_,h1⟩,hrep,h2⟩
     show (resv a.tmps (.cell t T)).run K.P w=_
     rw [show resv a.tmps (.cell t T)=(do loadVar T (←asAddr (a.tmps.getD t undef))) from rfl,hva]
     have hcell:w.cell? ⟨b,0,none⟩=some u:=by simp [World.cell?,hh]
     simp [asAddr,loadVar,Sem.run_bind,h1f.agg w,Result.andThen,hcell]
    ·cases hr
   ·rename_i t' y hs hobj
    change cond (tyIs cx.ty T t'&&t'.agg) _ _=_ at hr
    rw [Bool.cond_eq_ite] at hr
    split at hr
    ·rename_i hc
     simp only [Bool.and_eq_true] at hc
     obtain ⟨hc,hag⟩:=hc
     simp only [Option.map_eq_some_iff] at hr
     obtain ⟨avs',hr,rfl⟩:=hr
     obtain ⟨vs',h1,h2⟩:=res_rep hcx h hn hr
     obtain ⟨b,vs,et,us,hb,hh,hr,hus⟩:=h.ob _ _ hobj
     simp only [AVRep,SVRep,hobj] at ht
     obtain ⟨_,b',off,hb',hp,ex⟩:=ht
     rw [hb] at hb';cases hb'
     have h0:off=0:=by
      have:offP t' []=some (0,t'):=by cases t'<;>rfl
      simp only [obPos,this,Option.map_some,Option.some.injEq] at hp
      exact hp.symm
     subst h0
     have hT:cx.ty T=some t':=tyIs_eq hc
     have hlen:(sets vs us).length=t'.n:=by
      rw [←hr.length]
      clear hh hus
      induction us with
      | nil=>rfl
      | cons u A ih=>rw [sets,List.length_set,ih]
     have hl:=(hcx.ty T t' hT).loadN (b:=b) (off:=0) (w:=w) hlen hag ⟨_,_,_,hh,fun j v hj=>by simpa using hj⟩
     refine ⟨.agg (sets vs us).toArray::vs',⟨?_,h1⟩,⟨vs,us,rfl,hr,hus⟩,h2⟩
     show (resv a.tmps (.cell t T)).run K.P w=_
     rw [show resv a.tmps (.cell t T)=(do loadVar T (←asAddr (a.tmps.getD t undef))) from rfl,ex]
     simpa [Instr.loadAt,Instr.sureAddr,asAddr] using hl
    ·split at hr
     ·rename_i sv t₂ hsv hT2
      rw [Bool.cond_eq_ite] at hr
      split at hr
      ·rename_i hc
       simp only [Option.map_eq_some_iff] at hr
       obtain ⟨avs',hr,rfl⟩:=hr
       obtain ⟨vs',h1,h2⟩:=res_rep hcx h hn hr
       obtain ⟨_,hn1,ha1⟩:=heldOk_one hc
       obtain ⟨b,vs,et,us,hb,hh,hr',hus⟩:=h.ob _ _ hobj
       simp only [AVRep,SVRep,hobj] at ht
       obtain ⟨hin,b',off,hb',hp,ex⟩:=ht
       rw [hb] at hb';cases hb'
       obtain ⟨i,u,te,k1,k2,k3,k4,k5,k6⟩:=findH_rep hin hus hsv
       have h0:off=i:=by
        simp only [obPos,k1,Option.map_some,Option.some.injEq] at hp
        exact hp.symm
       subst h0
       have hcell:w.cell? ⟨b,off,none⟩=some u:=by
        simp [World.cell?,hh,k5]
       have hag:=(hcx.ty T t₂ hT2).isAgg w
       rw [ha1] at hag
       refine ⟨u::vs',⟨?_,h1⟩,k6,h2⟩
       show (resv a.tmps (.cell t T)).run K.P w=_
       rw [show resv a.tmps (.cell t T)=(do loadVar T (←asAddr (a.tmps.getD t undef))) from rfl,ex]
       simp [asAddr,loadVar,Sem.run_bind,hag,Result.andThen,hcell]
      ·cases hr
     ·cases hr
   ·cases hr
  ·cases hr
end
theorem initEnv_get:∀ {l:List SV} {t:Nat},initEnv l t=match l[t]? with | some v=>⟨[],.s v⟩ | none=>⟨[],.un⟩
 | [],t=>by simp [initEnv]
 | v::l,0=>rfl
 | v::l,t+1=>by simp only [initEnv];rw [initEnv_get];rfl
theorem init_env {P:Program} {s:ASt} {β:Nat→Loc} {a:Act} {w:World} {M:Nat→Prop} {l:List SV} {vs:List Value} {r:Array Value} (h:All2 (SVRep P s β w M) l vs) (t:Nat):EntRep P s β a w M (initEnv l t) ((vs.toArray++r).getD t undef):=by
 rw [initEnv_get]
 cases hl:l[t]? with
 | none=>exact ⟨fun _=>trivial,fun hh=>absurd (fun x hx=>by cases hx) hh⟩
 | some v =>
  refine ⟨fun _=>?_,fun hh=>absurd (fun x hx=>by cases hx) hh⟩
  have hlt:t<l.length:=(List.getElem?_eq_some_iff.1 hl).1
  have hlen:=h.length
  obtain ⟨u,hu⟩:∃ u,vs[t]?=some u:=⟨vs[t]'(by omega),List.getElem?_eq_getElem (by omega)⟩
  obtain ⟨v',hv',hr⟩:=h.get hu
  rw [hl] at hv';cases hv'
  have e:(vs.toArray++r).getD t undef=u:=by
   rw [Array.getD_eq_getD_getElem?,Array.getElem?_append_left (by simp;omega)]
   simp [hu]
  rw [e];exact hr
theorem noG_init {l:List SV} {obs:Nat→Option (Option Ob)}:NoG ⟨initEnv l,obs⟩:=by
 intro t
 show (initEnv l t).g=[]
 rw [initEnv_get]
 split<;>rfl
theorem args_svs {P:Program} {s:ASt} {β:Nat→Loc} {w:World} {M:Nat→Prop}:∀ {ts:List Ty} {vs:List Value} {x:Ds ts},ARep P w M ts vs x→All2 (SVRep P s β w M) ((unDs ts x).map fun v=>.d v.t v.x) vs
 | [],vs,x,h=>by rw [show vs=_ from h];trivial
 | [a],vs,x,h=>by obtain ⟨v,rfl,h⟩:=h;exact ⟨h,trivial⟩
 | a::b::r,vs,x,h=>by
  obtain ⟨v,vs',rfl,h1,h2⟩:=h
  exact ⟨h1,args_svs h2⟩
theorem ARep.length {P:Program} {w:World} {M:Nat→Prop}:∀ {ts:List Ty} {vs:List Value} {x:Ds ts},ARep P w M ts vs x→vs.length=ts.length
 | [],vs,x,h=>by rw [show vs=_ from h];rfl
 | [a],vs,x,h=>by obtain ⟨v,rfl,h⟩:=h;rfl
 | a::b::r,vs,x,h=>by
  obtain ⟨v,vs',rfl,h1,h2⟩:=h
  simp [ARep.length h2]
theorem rrep_of {P:Program} {w:World} {M:Nat→Prop} {ts:List Ty} {vs:List Value} {dvs:List Dv} {y:Ds ts} (h:All2 (fun (v:Value) (d:Dv)=>VRep P d.t w M v d.x) vs dvs) (hm:mkDs ts dvs=some y):RRep P w M ts (resVal vs) y:=by
 have hA:=mkDs_rep h hm
 clear h hm
 match ts,y,vs,hA with
 | [],y,vs,hA=>rw [show vs=_ from hA];exact rfl
 | [a],y,vs,hA=>obtain ⟨v,rfl,hA⟩:=hA;exact hA
 | a::b::r,y,vs,hA =>
  have hl:=hA.length
  refine ⟨vs,?_,hA⟩
  match vs,hl with
  | _::_::_,_=>rfl
def K0 (P:Program) (w:World) (M:Nat→Prop) (nt:Nat):Ctx :=
 {P,w0:=w,Mg:=M,Ml:=fun _=>False,Mf:=fun _=>False,mlf:=fun _ h=>h,nt,pins:=[],fix:=fun _=>none,pos:=fun _=>none,posr:=fun _ _ h=>(by cases h),posk:=fun _ _ h=>(by cases h),nod:=False,gid:=0,J:=fun _ _ _ _=>True,Jst:=fun _ _ _ _ _ _ _ _ _ _=>trivial }
theorem calls_of_wide {P:Program} {n:Nat} {f:FuncId} {args:Array Value} {w:World} {R:Ending→World→Prop} (h:CallsIn (FF P none) n P f args w R):CallsX P f args w R:=⟨h.1,fun cs _=>h.2 cs (by intro d hd;cases hd)⟩
theorem nz_end {P:Program} {cx:Cx} {s:ASt} {fn:Func} {s':ASt} {β:Nat→Loc} {w:World} {M:Nat→Prop}:∀ {ts:List Ty} {x:Ds ts} {avs:List AV} {us:List Value},nzEnd cx s fn ts x→resOf cx s fn.results.toList=some avs→All2 (AVRep P s' β w M) avs us →
  NilZ ts x (match us with
   | [v]=>v
   | l=>.tuple l.toArray):=by
 intro ts x avs us h hr hA t l he hl
 unfold nzEnd at h
 split at h
 ·rename_i t₀ l₀
  cases he
  rw [hr] at h
  split at h
  ·rename_i e t₁ heq
   cases heq
   cases us with
   | nil=>exact hA.elim
   | cons u us =>
    cases us with
    | nil=>exact hA.1
    | cons _ _=>exact hA.2.elim
  ·exact (h hl).elim
  ·exact h.elim
 ·exact h.elim
theorem holds_of_vc {P:Program} {f:Nat} {fn:Func} {c:Code} {k:Con} (hf:P.funcs[f]?=some fn) (hb:fn.body=some c) (hm:P.follows .mixedOrders=true) (hlen:fn.results.toList.length≤4) (hargs:k.args.length≤fn.ntmps)
  (hv:∀ x,k.pre x→∃ cx:Cx,CxOk P cx∧cx.yl=none∧cx.nt=fn.ntmps∧vcFun cx fn k x):Holds P f k:=by
 intro w M vs x hlt hA hpre
 obtain ⟨cx,hcx,hyl,hnt,hvc⟩:=hv x hpre
 have hl:=hA.length
 simp only [vcFun,hb] at hvc
 have hfit:Fit (K0 P w M fn.ntmps) cx:=⟨hnt,hm,by rw [hyl];exact ⟨fun _ _ _ _=>trivial,id⟩⟩
 have h0:RelB (K0 P w M fn.ntmps) ⟨initEnv ((unDs k.args x).map fun v=>.d v.t v.x),fun _=>none⟩ { tmps:=vs.toArray++Array.replicate (fn.ntmps - vs.toArray.size) undef,defers:=[] } w (fun _=>⟨none,.slice none 0 0,[]⟩):=by
  refine ⟨.refl _ _,hlt,fun _ _ _ h=>(by cases h),fun _ _ h=>(by cases h),fun _ _ _ _ _ h=>(by cases h),fun _ _ _ h=>(by cases h),?_,?_,fun _ h=>(by cases h),List.nodup_nil,fun _=>rfl,fun _ h=>(by cases h),trivial,(fun _ _ h=>by cases h),(fun _ _ h=>by cases h),fun _ _ h=>(by cases h)⟩
  ·intro t
   refine init_env (args_svs (hA.tr ⟨.refl _ _,fun b _ hm=>?_⟩)) t
   rcases hm with hm | ⟨o,ob,h1,_⟩
   ·exact hm
   ·cases h1
  ·simp only [Array.size_append,Array.size_replicate,List.size_toArray]
   show _=fn.ntmps
   omega
 refine calls_of_wide (n:=0) (callsIn_of_wp_marks hf hb (by show (P.funcs[f]?).isSome=true;rw [hf];rfl) ?_)
 refine vc_sound loop_rule range_rule c (K0 P w M fn.ntmps) none 0 hcx hfit trivial (fun _ _=>rfl) M _ _ _ _ _ _ hvc h0 noG_init ?_ fun _ _ _ h=>h.elim
 intro M' hM' e s a w' β' hq h hn
 have hM':=hM' hyl
 subst hM'
 have fin:(match ((resOf cx s fn.results.toList).bind (optAll (AV.dv cx s))).bind (fun l=>mkDs k.res (coes k.res l)) with
   | some y=>match k.nz with
    | false=>Z.same y (k.val x)
    | true=>Z.same y (k.val x)∧nzEnd cx s fn k.res (k.val x)
   | none=>False)→LeavesInM (FF P none) 0 P fn a.tmps (fun e w''=>∃ v,e=.returned v∧Ext noM w w''∧RRep P w'' M' k.res v (k.val x)∧(k.nz=true→NilZ k.res (k.val x) v)) a.defers .returning w':=by
  intro hq
  split at hq
  ·rename_i y hy
   obtain ⟨hq,hnz⟩:y=k.val x∧(k.nz=true→nzEnd cx s fn k.res (k.val x)):=by
    cases hz:k.nz with
    | false=>rw [hz] at hq;exact ⟨hq,fun h=>by cases h⟩
    | true=>rw [hz] at hq;exact ⟨hq.1,fun _=>hq.2⟩
   subst hq
   simp only [Option.bind_eq_some_iff] at hy
   obtain ⟨dvs,⟨avs,hr,hd⟩,hmk⟩:=hy
   refine leaves (fun d hd=>by obtain ⟨D,e1,e2,_⟩:=h.defs d hd;exact ⟨D,e1,e2⟩) h.dnd fun w'' h1 h2 hio=>?_
   obtain ⟨h3,h4⟩:=h.left rfl h1 h2 hio
   obtain ⟨us,r1,r2⟩:=res_rep hcx h3 hn hr
   refine ⟨_,results_run (by simp) hlen r1,_,rfl,⟨h3.frame.1,fun b hb' hm=>h3.frame.2 b hb' id,h3.frame.io⟩,?_⟩
   refine ⟨rrep_of (coes_rep _ (avs_rep hcx h3 r2 (optAll_all2 hd) (under_mg h3 fun q hq=>by
    obtain ⟨av,_,hq⟩:=List.mem_flatMap.1 hq
    exact open_live hq))) hmk,fun hz=>nz_end (hnz hz) hr r2⟩
  ·exact hq.elim
 cases e with
 | normal=>exact fin hq
 | ret=>exact fin hq
 | _=>exact hq.elim
end Go.Sx
/-
 The symbolic layer,part 29: iterators.
-/
namespace Go.Sx
theorem YieldAt.mono' {P:Program} {l:Nat} {us:Array Value} {w:World} {R R':Ending→World→Prop} (h:YieldAt (FF P none) 0 P l us w R) (hr:∀ e w',R e w'→R' e w'):YieldAt (FF P none) 0 P l us w R':=by
 obtain ⟨fn,tmps,x,y,h1,h2⟩:=h
 exact ⟨fn,tmps,x,y,h1,h2.mono hr⟩
def JI {elt:Ty} (J Jx:List elt.D→(Nat→Prop)→(Nat→Prop)→World→Prop) (g:Option Dv) (G M:Nat→Prop) (w:World):Prop :=
 ∃ (l:List elt.D) (b:Bool),g=some ⟨yTy elt,(l,b)⟩∧(b=false→J l G M w)∧(b=true→Jx l G M w)
theorem JI_inj {elt:Ty} {J Jx:List elt.D→(Nat→Prop)→(Nat→Prop)→World→Prop} {p:List elt.D} {b:Bool} {G M:Nat→Prop} {w:World} (h:JI J Jx (some ⟨yTy elt,(p,b)⟩) G M w):(b=false→J p G M w)∧(b=true→Jx p G M w):=by
 obtain ⟨l,b',e,h1,h2⟩:=h
 have e:=Option.some.inj e
 injection e with _ e
 have e:(p,b)=(l,b'):=e
 cases e
 exact ⟨h1,h2⟩
theorem JI_st {elt:Ty} {w:World} {J Jx:List elt.D→(Nat→Prop)→(Nat→Prop)→World→Prop} (hst:Stab w J) (hstx:Stab w Jx) (g:Option Dv) (G M:Nat→Prop) (w₁:World) (G':Nat→Prop) (w':World)
  (h:JI J Jx g G M w₁) (ht:TrD w.heap.size M G w₁ G' w') (hG:∀ b,G b→¬ M b∧(w.heap.size≤b∨False)) (hG':∀ b,G' b→b<w'.heap.size):JI J Jx g G' M w':=by
 obtain ⟨l,b,e,h1,h2⟩:=h
 have hg:∀ b,G b→¬ M b∧w.heap.size≤b:=fun b hg=>⟨(hG b hg).1,(hG b hg).2.resolve_right id⟩
 exact ⟨l,b,e,fun hb=>hst l G M w₁ G' w' (h1 hb) ht hg hG',fun hb=>hstx l G M w₁ G' w' (h2 hb) ht hg hG'⟩
theorem holdsI_of_vc {P:Program} {f:Nat} {fn:Func} {c:Code} {k:ICon} (hf:P.funcs[f]?=some fn) (hb:fn.body=some c) (hm:P.follows .mixedOrders=true) (hres:fn.results=#[]) (hargs:k.args.length+1≤fn.ntmps)
  (hv:∀ x ly,k.pre x→∃ cx gid,CxOk P cx∧cx.yl=some ⟨ly,gid,k.two,k.elt,k.seq x⟩∧cx.nt=fn.ntmps∧vcIter cx fn k x):HoldsI P f k:=by
 intro w M vs x hlt hA hpre ly J Jx Jp hst hstx hltJ hltJx hstp hround hJ0
 obtain ⟨cx,gid,hcx,hyl,hnt,hvc⟩:=hv x ly hpre
 have hl:=hA.length
 simp only [vcIter,hb,hyl] at hvc
 obtain ⟨K,hK⟩:∃ K:Ctx,K={ P,w0:=w,Mg:=M,Ml:=fun _=>False,Mf:=fun _=>True,mlf:=fun _ h=>trivial,nt:=fn.ntmps,pins:=[],fix:=fun _=>none,pos:=fun _=>none,posr:=fun _ _ h=>(by cases h),posk:=fun _ _ h=>(by cases h),nod:=False,gid:=gid,J:=JI J Jx,Jst:=JI_st hst hstx,jp:=Jp,jpst:=hstp }:=⟨_,rfl⟩
 have hKP:K.P=P:=by rw [hK]
 have hKJ:K.J=JI J Jx:=by rw [hK]
 have hKg:K.gid=gid:=by rw [hK]
 have hKw:K.w0=w:=by rw [hK]
 have hfit:Fit K cx:=by
  refine ⟨by rw [hK];exact hnt,by rw [hK];exact hm,?_⟩
  rw [hyl]
  refine ⟨hKg,by rw [hK];exact id,fun _ _ _ _ _ _ _ _ _=>(by rw [hK];trivial),fun _ _ _ _ _ x hx=>(by rw [hK] at hx;cases hx),?_,?_⟩
  ·rw [hKJ]
   rintro g G M w' ⟨l,b,e,h1,h2⟩
   cases b with
   | false=>exact hltJ l G M w' (h1 rfl)
   | true=>exact hltJx l G M w' (h2 rfl)
  ·intro p e r G M w' us hall hj hre hG hG2
   rw [hKJ] at hj ⊢
   rw [hKw] at hG
   rw [hKP] at hre ⊢
   have hG:∀ b,G b→¬ M b∧w.heap.size≤b:=fun b hb=>⟨(hG b hb).1,(hG b hb).2.resolve_right (by rw [hK];exact id)⟩
   have hMx:∀ b,¬ K.Mx b:=fun b=>by rw [hK];exact id
   refine YieldAt.mono' (hround p e r G M w' us hall ((JI_inj hj).1 rfl) hre hG hG2) ?_
   rintro r' w₂ (⟨h1,M₂,h2,h3⟩ | ⟨h1,M₂,h2,h3⟩ | ⟨ch,h1,h2,h3⟩)
   ·exact .inl ⟨h1,M₂,⟨_,false,rfl,fun _=>h2,fun h=>by cases h⟩,h3.1.mono fun b _ hb=>⟨hb,hMx b⟩,h3.2⟩
   ·exact .inr (.inl ⟨h1,M₂,⟨_,true,rfl,fun h=>(by cases h),fun _=>h2⟩,h3.1.mono fun b _ hb=>⟨hb,hMx b⟩,h3.2⟩)
   ·exact .inr (.inr ⟨ch,h1,by rw [hK];exact h2,h3.mono fun b _ hb=>⟨hb,hMx b⟩⟩)
 obtain ⟨s0,hs0⟩:∃ s0:ASt,s0=iterS gid ly k.elt x:=⟨_,rfl⟩
 have hgid:s0.obs gid=some (some (.gh (yTy k.elt) ([],false))):=by rw [hs0];simp only [iterS,Nat.beq_refl,cond_true]
 have hobs:∀ o ob,s0.obs o=some (some ob)→ob=.gh (yTy k.elt) ([],false):=by
  intro o ob ho
  rw [hs0] at ho
  simp only [iterS] at ho
  cases hb':Nat.beq o gid with
  | true=>rw [hb'] at ho;cases ho;rfl
  | false=>rw [hb'] at ho;cases ho
 have hown:Own s0 (fun _=>⟨none,.slice none 0 0,[]⟩)=fun _=>False:=by
  funext b
  refine propext ⟨?_,fun h=>h.elim⟩
  rintro ⟨o,ob,_,_,h3⟩
  cases one_blk h3
 have h0:RelB K s0 { tmps:=(#[Value.func (.yield ly) #[] #[]]++vs.toArray)++Array.replicate (fn.ntmps - (#[Value.func (.yield ly) #[] #[]]++vs.toArray).size) undef,defers:=[] } w (fun _=>⟨none,.slice none 0 0,[]⟩):=by
  refine ⟨?_,?_,fun _ _ _ _ h=>(by cases one_blk h),?_,fun _ _ _ _ _ _ _ h=>(by cases one_blk h),fun _ _ _ _ _ h=>(by cases one_blk h),?_,?_,fun _ h=>(by cases h),List.nodup_nil,fun _=>rfl,?_,?_,?_,?_,fun _ _ _ _=>rfl⟩
  ·rw [hK];exact .refl _ _
  ·rw [hK];exact hlt
  ·intro o ob ho
   rw [hobs o ob ho];rfl
  ·intro t
   have hML:∀ b,Mset K.Mg s0 (fun _=>⟨none,.slice none 0 0,[]⟩) b→M b:=by
    rintro b (hb' | hb')
    ·rw [hK] at hb';exact hb'
    ·rw [hown] at hb';exact hb'.elim
   cases t with
   | zero =>
    have he:s0.env 0=⟨[],.yl ly⟩:=by rw [hs0];rfl
    have e:((#[Value.func (.yield ly) #[] #[]]++vs.toArray)++Array.replicate (fn.ntmps - (#[Value.func (.yield ly) #[] #[]]++vs.toArray).size) undef).getD 0 undef=Value.func (.yield ly) #[] #[]:=by
     rw [Array.getD_eq_getD_getElem?,Array.append_assoc,Array.getElem?_append_left (by simp)]
     rfl
    rw [he,e]
    exact ⟨fun _=>rfl,fun hh=>absurd (fun x hx=>by cases hx) hh⟩
   | succ t =>
    have:=init_env (P:=K.P) (s:=s0) (β:=fun _=>⟨none,.slice none 0 0,[]⟩) (a:={ tmps:=(#[Value.func (.yield ly) #[] #[]]++vs.toArray)++Array.replicate (fn.ntmps - (#[Value.func (.yield ly) #[] #[]]++vs.toArray).size) undef,defers:=[] }) (w:=w) (M:=Mset K.Mg s0 (fun _=>⟨none,.slice none 0 0,[]⟩)) (r:=Array.replicate (fn.ntmps - (#[Value.func (.yield ly) #[] #[]]++vs.toArray).size) undef) (args_svs (s:=s0) (β:=fun _=>⟨none,.slice none 0 0,[]⟩) (by rw [hKP];exact hA.tr ⟨.refl _ _,fun b _ hm=>hML b hm⟩)) t
    have he:s0.env (t+1)=initEnv ((unDs k.args x).map fun v=>.d v.t v.x) t:=by rw [hs0];rfl
    have e:((#[Value.func (.yield ly) #[] #[]]++vs.toArray)++Array.replicate (fn.ntmps - (#[Value.func (.yield ly) #[] #[]]++vs.toArray).size) undef).getD (t+1) undef=(vs.toArray++Array.replicate (fn.ntmps - (#[Value.func (.yield ly) #[] #[]]++vs.toArray).size) undef).getD t undef:=by
     rw [Array.getD_eq_getD_getElem?,Array.getD_eq_getD_getElem?,Array.append_assoc,Array.getElem?_append_right (by simp)]
     simp
    rw [he,e]
    exact this
  ·rw [hK]
   simp only [Array.size_append,Array.size_replicate,List.size_toArray,List.length_cons,List.length_nil]
   omega
  ·rw [hK];exact fun _ h=>by cases h
  ·rw [hKg,hgid,hown,hKJ]
   refine ⟨[],false,rfl,fun _=>?_,fun h=>by cases h⟩
   rw [hK];exact hJ0
  ·rw [hK];exact fun _ _ h=>by cases h
  ·rw [hK];exact fun _ _ h=>by cases h
 have hng:NoG s0:=by
  intro t
  rw [hs0]
  cases t with
  | zero=>rfl
  | succ t=>exact noG_init (l:=(unDs k.args x).map fun v=>.d v.t v.x) (obs:=fun _=>none) t
 rw [←hs0] at hvc
 refine calls_of_wide (n:=0) (callsIn_of_wp_marks hf hb (by show (P.funcs[f]?).isSome=true;rw [hf];rfl) ?_)
 have hwp:=vc_sound loop_rule range_rule c K none 0 (by rw [hKP];exact hcx) hfit trivial (by rw [hK];exact fun _ _=>rfl) K.Mg _ (bodyPostM (FF P none) 0 P fn (fun r w'=>((∃ v,r=.returned v)∧((∃ M,J (k.seq x) (fun _=>False) M w')∨∃ p M,Jx p (fun _=>False) M w'))∨∃ ch,r=.panicked ch∧Jp ch w')) _ _ _ _ hvc (show RelB (K.mg K.Mg) s0 _ w _ from h0) hng ?_ ?_
 ·rw [hKP] at hwp;exact hwp
 ·intro M' hM' e s a w' β' hq h hn
  have hgh:K.J (ghOf (s.obs K.gid)) (Own s β') M' w':=h.gh
  rw [hKg,hKJ] at hgh
  have hside:∀ b,Own s β' b→¬ M' b∧w.heap.size≤b:=by
   rintro b ⟨o,ob,h1,h2,h3⟩
   refine ⟨h.dis o ob b h1 h3,?_⟩
   have:=h.rng o ob b h1 h2 h3
   rw [show (K.mg M').w0=w from hKw] at this
   exact this.resolve_right (by show ¬ K.Ml b;rw [hK];exact id)
  have fin:(iterQ gid k.elt (k.seq x) s)→LeavesInM (FF P none) 0 P fn a.tmps (fun r w'=>((∃ v,r=.returned v)∧((∃ M,J (k.seq x) (fun _=>False) M w')∨∃ p M,Jx p (fun _=>False) M w'))∨∃ ch,r=.panicked ch∧Jp ch w') a.defers .returning w':=by
   intro hq
   refine leaves (fun d hd=>by obtain ⟨D,e1,e2,_⟩:=h.defs d hd;exact ⟨D,e1,e2⟩) h.dnd fun w'' h1 h2 hio=>?_
   have htr:TrD w.heap.size M' (Own s β') w' (fun _=>False) w'':=by
    refine ⟨⟨Nat.le_of_eq h1.symm,fun b _ _=>?_,hio⟩,fun _ _ h=>h.elim⟩
    by_cases hm:b∈a.defers.map dof
    ·obtain ⟨d,hd,e⟩:=List.mem_map.1 hm
     obtain ⟨D,rfl,hD,k1,k2⟩:=h.defs d hd
     have e:D=b:=e
     subst e
     exact .inr ⟨by rw [←hKw];exact k2,k1,_,hD,rfl⟩
    ·exact .inl (h2 b hm)
   unfold iterQ at hq
   refine ⟨_,results_none hres _ _ _,.inl ⟨⟨_,rfl⟩,?_⟩⟩
   split at hq
   ·rename_i t z hobz
    split at hq
    ·rename_i l hcl
     rw [hobz] at hgh
     obtain ⟨e1,e2⟩:=castD_some hcl
     cases e1
     have e2:l=z.1:=e2
     subst e2
     have hgh:=JI_inj (p:=z.1) (b:=z.2) hgh
     cases hz:z.2 with
     | false =>
      have hall:z.1=k.seq x:=hq hz
      left
      refine ⟨M',?_⟩
      rw [←hall]
      exact hst _ _ _ _ _ _ (hgh.1 hz) htr hside (fun _ h=>h.elim)
     | true =>
      exact .inr ⟨z.1,M',hstx _ _ _ _ _ _ (hgh.2 hz) htr hside (fun _ h=>h.elim)⟩
    ·exact hq.elim
   ·exact hq.elim
  cases e with
  | normal=>exact fin hq
  | ret=>exact fin hq
  | _=>exact hq.elim
 ·intro ch a w' h1 hdf hdn
  have h1:Jp ch w':=by rw [hK] at h1;exact h1
  show LeavesInM _ _ _ _ _ _ a.defers _ _
  refine leavesP (fun d hd=>by obtain ⟨D,e1,e2,_⟩:=hdf d hd;exact ⟨D,e1,e2⟩) hdn fun w'' k1 k2 hio=>.inr ⟨ch,rfl,hstp _ _ _ h1 ⟨Nat.le_of_eq k1.symm,fun b _ _=>?_,hio⟩⟩
  by_cases hm:b∈a.defers.map dof
  ·obtain ⟨d,hd,e⟩:=List.mem_map.1 hm
   obtain ⟨D,rfl,hD,k3⟩:=hdf d hd
   have e:D=b:=e
   subst e
   exact .inr ⟨by rw [hKw] at k3;exact k3,id,_,hD,rfl⟩
  ·exact .inl (k2 b hm)
end Go.Sx
/-
 The symbolic layer,part 30: functions that are lent objects.
-/
namespace Go.Sx
theorem obsOf_ne {l:List (Nat × Ob)} {k o:Nat} {ob:Ob} (h:o≠k):obsOf ((k,ob)::l) o=obsOf l o:=by
 simp only [obsOf,beq_ne h,cond_false]
theorem obsOf_hd {l:List (Nat × Ob)} {k:Nat} {ob:Ob}:obsOf ((k,ob)::l) k=some (some ob):=by
 simp only [obsOf,Nat.beq_refl,cond_true]
theorem lent_ge:∀ {args:List AK} {i o:Nat},o∈lentIds args i→200000+2*i≤o
 | .d _::r,i,o,h=>by have:=lent_ge (args:=r) (i:=i+1) h;omega
 | .row _ _::r,i,o,h=>by have:=lent_ge (args:=r) (i:=i+1) h;omega
 | .box _::r,i,o,h=>by
  rcases List.mem_cons.1 (show o∈pid i::lentIds r (i+1) from h) with e | h
  ·simp only [pid] at e;omega
  ·have:=lent_ge (args:=r) (i:=i+1) h;omega
 | .mem::r,i,o,h=>by
  rcases List.mem_cons.1 (show o∈pid i::qid i::lentIds r (i+1) from h) with e | h
  ·simp only [pid] at e;omega
  ·rcases List.mem_cons.1 h with e | h
   ·simp only [qid] at e;omega
   ·have:=lent_ge (args:=r) (i:=i+1) h;omega
 | .self::r,i,o,h=>by
  rcases List.mem_cons.1 (show o∈pid i::lentIds r (i+1) from h) with e | h
  ·simp only [pid] at e;omega
  ·have:=lent_ge (args:=r) (i:=i+1) h;omega
 | .via _::r,i,o,h=>by
  rcases List.mem_cons.1 (show o∈pid i::qid i::lentIds r (i+1) from h) with e | h
  ·simp only [pid] at e;omega
  ·rcases List.mem_cons.1 h with e | h
   ·simp only [qid] at e;omega
   ·have:=lent_ge (args:=r) (i:=i+1) h;omega
theorem lent_start {f:Nat} {caps:List SV} {m:MInv}:∀ {args:List AK} {i:Nat} {dvs:List Dv} {o:Nat},dvs.map (·.t)=AK.ins args→o∈lentIds args i→∃ ob,obsOf (cObs f caps m args i dvs) o=some (some ob)∧isRow ob=false∧isGh ob=false
 | .d _::r,i,[],o,ht,h=>by cases ht
 | .row _ _::r,i,[],o,ht,h=>by cases ht
 | .box _::r,i,[],o,ht,h=>by cases ht
 | .via _::r,i,[],o,ht,h=>by cases ht
 | .via t::r,i,⟨t',x⟩::vs,o,ht,h=>by
  simp only [AK.ins,List.map_cons,List.cons.injEq] at ht
  show ∃ ob,obsOf ((pid i,.bv (.s (.ptr (qid i) [])))::(qid i,.bx false t' x)::cObs f caps m r (i+1) vs) o=_∧_
  rcases List.mem_cons.1 (show o∈pid i::qid i::lentIds r (i+1) from h) with e | h
  ·subst e;exact ⟨_,obsOf_hd,rfl,rfl⟩
  ·rcases List.mem_cons.1 h with e | h
   ·subst e;exact ⟨_,(obsOf_ne (by simp only [pid,qid];omega)).trans obsOf_hd,rfl,rfl⟩
   ·have hg:=lent_ge (args:=r) (i:=i+1) h
    obtain ⟨ob,h1,h2⟩:=lent_start (f:=f) (caps:=caps) (m:=m) (args:=r) (i:=i+1) ht.2 h
    exact ⟨ob,(obsOf_ne (by simp only [pid];omega)).trans ((obsOf_ne (by simp only [qid];omega)).trans h1),h2⟩
 | .d _::r,i,v::vs,o,ht,h=>by
  simp only [AK.ins,List.map_cons,List.cons.injEq] at ht
  exact lent_start (args:=r) (i:=i+1) ht.2 h
 | .row e t::r,i,⟨t',l⟩::vs,o,ht,h=>by
  simp only [AK.ins,List.map_cons,List.cons.injEq] at ht
  obtain ⟨rfl,ht⟩:=ht
  have hg:=lent_ge (args:=r) (i:=i+1) h
  obtain ⟨ob,h1,h2⟩:=lent_start (f:=f) (caps:=caps) (m:=m) (args:=r) (i:=i+1) ht h
  exact ⟨ob,(obsOf_ne (by simp only [pid];omega)).trans h1,h2⟩
 | .box t::r,i,⟨t',x⟩::vs,o,ht,h=>by
  simp only [AK.ins,List.map_cons,List.cons.injEq] at ht
  rcases List.mem_cons.1 (show o∈pid i::lentIds r (i+1) from h) with e | h
  ·subst e;exact ⟨_,obsOf_hd,rfl,rfl⟩
  ·have hg:=lent_ge (args:=r) (i:=i+1) h
   obtain ⟨ob,h1,h2⟩:=lent_start (f:=f) (caps:=caps) (m:=m) (args:=r) (i:=i+1) ht.2 h
   exact ⟨ob,(obsOf_ne (by simp only [pid];omega)).trans h1,h2⟩
 | .mem::r,i,vs,o,ht,h=>by
  have ht:vs.map (·.t)=AK.ins r:=ht
  have e0:cObs f caps m (.mem::r) i vs=(pid i,.bv (.s (.mp (qid i))))::(qid i,.mm m.tk m.tv m.inv)::cObs f caps m r (i+1) vs:=by cases vs<;>rfl
  rw [e0]
  rcases List.mem_cons.1 (show o∈pid i::qid i::lentIds r (i+1) from h) with e | h
  ·subst e;exact ⟨_,obsOf_hd,rfl,rfl⟩
  ·rcases List.mem_cons.1 h with e | h
   ·subst e;exact ⟨_,(obsOf_ne (by simp only [pid,qid];omega)).trans obsOf_hd,rfl,rfl⟩
   ·have hg:=lent_ge (args:=r) (i:=i+1) h
    obtain ⟨ob,h1,h2⟩:=lent_start (f:=f) (caps:=caps) (m:=m) (args:=r) (i:=i+1) ht h
    exact ⟨ob,(obsOf_ne (by simp only [pid];omega)).trans ((obsOf_ne (by simp only [qid];omega)).trans h1),h2⟩
 | .self::r,i,vs,o,ht,h=>by
  have ht:vs.map (·.t)=AK.ins r:=ht
  have e0:cObs f caps m (.self::r) i vs=(pid i,.bv (.clo f caps))::cObs f caps m r (i+1) vs:=by cases vs<;>rfl
  rw [e0]
  rcases List.mem_cons.1 (show o∈pid i::lentIds r (i+1) from h) with e | h
  ·subst e;exact ⟨_,obsOf_hd,rfl,rfl⟩
  ·have hg:=lent_ge (args:=r) (i:=i+1) h
   obtain ⟨ob,h1,h2⟩:=lent_start (f:=f) (caps:=caps) (m:=m) (args:=r) (i:=i+1) ht h
   exact ⟨ob,(obsOf_ne (by simp only [pid];omega)).trans h1,h2⟩
theorem SV.within_sub {l l':List Nat} (h:∀ o∈l,o∈l') {v:SV} (hv:v.within l=true):v.within l'=true:=by
 cases v with
 | d _ _=>rfl
 | nl _ _=>rfl
 | ptr o _=>exact memN_mem (h o (memN_iff.1 hv))
 | os o=>exact memN_mem (h o (memN_iff.1 hv))
 | mp o=>exact memN_mem (h o (memN_iff.1 hv))
structure FinF (s:ASt) (f:Nat) (caps:List SV) (m:MInv) (args:List AK) (i:Nat) (bs:List Dv):Prop where
 len:bs.length=(AK.boxes args).length
 obs:∀ o ob,(o,ob)∈cFin f caps m args i bs→s.obs o=some (some ob)∧o∈lentIds args i∧isRow ob=false∧∀ v,ob=.bv v→(∃ q,v=.s q∧q.within (lentIds args i)=true)∨v=.clo f caps
 all:∀ o∈lentIds args i,∃ ob,(o,ob)∈cFin f caps m args i bs
theorem FinF.cons {s:ASt} {f:Nat} {caps:List SV} {m:MInv} {k:AK} {r:List AK} {i:Nat} {b bs:List Dv} {l:List (Nat × Ob)} (h:FinF s f caps m r (i+1) bs) (hlen:(AK.boxes (k::r)).length=b.length+(AK.boxes r).length)
  (h1:cFin f caps m (k::r) i (b++bs)=l++cFin f caps m r (i+1) bs) (h2:lentIds (k::r) i=l.map (·.1)++lentIds r (i+1))
  (h3:∀ o ob,(o,ob)∈l→s.obs o=some (some ob)∧isRow ob=false∧∀ v,ob=.bv v→(∃ q,v=.s q∧q.within (l.map (·.1))=true)∨v=.clo f caps):FinF s f caps m (k::r) i (b++bs):=by
 refine ⟨by rw [List.length_append,hlen,h.len],?_,?_⟩
 ·intro o ob hm
  rw [h1] at hm
  rw [h2]
  rcases List.mem_append.1 hm with hm | hm
  ·obtain ⟨g1,g2,g3⟩:=h3 o ob hm
   exact ⟨g1,List.mem_append.2 (.inl (List.mem_map.2 ⟨_,hm,rfl⟩)),g2,fun v e=>(g3 v e).imp (fun ⟨q,e,hq⟩=>⟨q,e,SV.within_sub (fun o ho=>List.mem_append.2 (.inl ho)) hq⟩) id⟩
  ·obtain ⟨g1,g2,g3,g4⟩:=h.obs o ob hm
   exact ⟨g1,List.mem_append.2 (.inr g2),g3,fun v e=>(g4 v e).imp (fun ⟨q,e,hq⟩=>⟨q,e,SV.within_sub (fun o ho=>List.mem_append.2 (.inr ho)) hq⟩) id⟩
 ·intro o ho
  rw [h2] at ho
  rw [h1]
  rcases List.mem_append.1 ho with ho | ho
  ·obtain ⟨⟨o',ob⟩,hm,rfl⟩:=List.mem_map.1 ho
   exact ⟨ob,List.mem_append.2 (.inl hm)⟩
  ·obtain ⟨ob,hm⟩:=h.all o ho
   exact ⟨ob,List.mem_append.2 (.inr hm)⟩
theorem fin_facts {s:ASt} {f:Nat} {caps:List SV} {m:MInv}:∀ {args:List AK} {i:Nat} {bs:List Dv} {ps:List Prop},finK s f caps m args i=some (bs,ps)→(∀ p∈ps,p)→FinF s f caps m args i bs
 | [],i,bs,ps,h,_=>by
  simp only [finK,Option.some.injEq,Prod.mk.injEq] at h
  obtain ⟨rfl,rfl⟩:=h
  exact ⟨rfl,fun _ _ h=>(by cases h),fun _ h=>(by cases h)⟩
 | k::r,i,bs,ps,h,hp=>by
  simp only [finK] at h
  split at h
  ·cases h
  ·rename_i vs ps' hr
   cases k with
   | d t=>cases h;exact (fin_facts hr hp).cons (b:=[]) (l:=[]) (by simp [AK.boxes]) (by cases bs<;>rfl) rfl (fun _ _ h=>by cases h)
   | row e t=>cases h;exact (fin_facts hr hp).cons (b:=[]) (l:=[]) (by simp [AK.boxes]) (by cases bs<;>rfl) rfl (fun _ _ h=>by cases h)
   | box t =>
    simp only at h
    split at h
    ·rename_i t' x ho
     cases h
     refine (fin_facts hr hp).cons (b:=[⟨t',x⟩]) (l:=[(pid i,.bx false t' x)]) (by simp [AK.boxes];omega) rfl rfl ?_
     intro o ob hm
     cases List.mem_singleton.1 hm
     exact ⟨ho,rfl,fun v e=>by cases e⟩
    ·cases h
   | mem =>
    simp only at h
    split at h
    ·rename_i q tk tv inv h1 h2
     rw [Bool.cond_eq_ite] at h
     split at h
     ·rename_i hq
      cases h
      have hq:=Nat.eq_of_beq_eq_true hq
      subst hq
      have hm:MInv.mk tk tv inv=m:=hp _ List.mem_cons_self
      refine (fin_facts hr fun p hp'=>hp p (List.mem_cons_of_mem _ hp')).cons (b:=[]) (l:=[(pid i,.bv (.s (.mp (qid i)))),(qid i,.mm m.tk m.tv m.inv)]) (by simp [AK.boxes]) (by cases bs<;>rfl) rfl ?_
      intro o ob hmem
      rcases List.mem_cons.1 hmem with e | hmem
      ·cases e
       exact ⟨h1,rfl,fun v e=>by cases e;exact .inl ⟨_,rfl,memN_mem (by simp)⟩⟩
      ·cases List.mem_singleton.1 hmem
       exact ⟨by rw [h2,←hm],rfl,fun v e=>by cases e⟩
     ·cases h
    ·cases h
   | self =>
    simp only at h
    split at h
    ·rename_i f' c h1
     split at h
     ·rename_i l hf he
      cases h
      have hf:=Nat.eq_of_beq_eq_true hf
      subst hf
      have hc:c=caps:=eqSVs_eq he (allP_of fun p hp'=>hp p (List.mem_append.2 (.inl hp')))
      subst hc
      refine (fin_facts hr fun p hp'=>hp p (List.mem_append.2 (.inr hp'))).cons (b:=[]) (l:=[(pid i,.bv (.clo f' c))]) (by simp [AK.boxes]) (by cases bs<;>rfl) rfl ?_
      intro o ob hmem
      cases List.mem_singleton.1 hmem
      exact ⟨h1,rfl,fun v e=>by cases e;exact .inr rfl⟩
     ·cases h
    ·cases h
   | via t =>
    simp only at h
    split at h
    ·rename_i q t' x h1 h2
     rw [Bool.cond_eq_ite] at h
     split at h
     ·rename_i hq
      cases h
      have hq:=Nat.eq_of_beq_eq_true hq
      subst hq
      refine (fin_facts hr hp).cons (b:=[⟨t',x⟩]) (l:=[(pid i,.bv (.s (.ptr (qid i) []))),(qid i,.bx false t' x)]) (by simp [AK.boxes];omega) rfl rfl ?_
      intro o ob hmem
      rcases List.mem_cons.1 hmem with e | hmem
      ·cases e
       exact ⟨h1,rfl,fun v e=>by cases e;exact .inl ⟨_,rfl,memN_mem (by simp)⟩⟩
      ·cases List.mem_singleton.1 hmem
       exact ⟨h2,rfl,fun v e=>by cases e⟩
     ·cases h
    ·cases h
where allP_of:∀ {l:List Prop},(∀ p∈l,p)→allP l
 | [],_=>trivial
 | p::l,h=>⟨h p List.mem_cons_self,allP_of fun q hq=>h q (List.mem_cons_of_mem _ hq)⟩
theorem svs_len:∀ {args:List AK} {i:Nat} {dvs:List Dv},(cSvs args i dvs).length≤args.length
 | [],_,[]=>Nat.le_refl _
 | [],_,_::_=>Nat.le_refl _
 | .d _::r,i,v::vs=>Nat.succ_le_succ (svs_len (args:=r))
 | .row _ _::r,i,v::vs=>Nat.succ_le_succ (svs_len (args:=r))
 | .box _::r,i,v::vs=>Nat.succ_le_succ (svs_len (args:=r))
 | .via _::r,i,v::vs=>Nat.succ_le_succ (svs_len (args:=r))
 | .via _::r,i,[]=>Nat.zero_le _
 | .d _::r,i,[]=>Nat.zero_le _
 | .row _ _::r,i,[]=>Nat.zero_le _
 | .box _::r,i,[]=>Nat.zero_le _
 | .mem::r,i,[]=>Nat.succ_le_succ (svs_len (args:=r))
 | .mem::r,i,_::_=>Nat.succ_le_succ (svs_len (args:=r))
 | .self::r,i,[]=>Nat.succ_le_succ (svs_len (args:=r))
 | .self::r,i,_::_=>Nat.succ_le_succ (svs_len (args:=r))
theorem obsOf_some {o:Nat} {ob:Ob}:∀ {l:List (Nat × Ob)},(o,ob)∈l→∃ ob',obsOf l o=some (some ob')
 | (k,ob')::l,h=>by
  by_cases e:o=k
  ·subst e;exact ⟨_,obsOf_hd⟩
  ·rw [obsOf_ne e]
   rcases List.mem_cons.1 h with h | h
   ·cases h;exact absurd rfl e
   ·exact obsOf_some h
section
variable {P:Program} {s:ASt} {β β₁ β':Nat→Loc} {fin:Nat→Option (Option Ob)} {w:World} {M M':Nat→Prop} {L:List Nat}
theorem SV.lend (hL:∀ o∈L,∃ ob,s.obs o=some (some ob)∧isRow ob=false∧fin o=some (some ob)∧(β' o).blk=(β₁ o).blk) (ht:Tr M w M' w) {v:SV} {u:Value} (hw:v.within L=true) (h:SVRep P s β₁ w M v u):SVRep P (bare fin) β' w M' v u:=by
 cases v with
 | d t x=>exact VRep.tr h ht
 | nl e t=>exact h
 | mp o =>
  obtain ⟨ob,h1,h2,h3,h4⟩:=hL o (memN_iff.1 hw)
  simp only [SVRep,h1] at h
  simp only [SVRep,bare,h3,h4]
  exact h
 | ptr o p =>
  obtain ⟨ob,h1,h2,h3,h4⟩:=hL o (memN_iff.1 hw)
  simp only [SVRep,h1] at h
  simp only [SVRep,bare,h3,h4]
  exact h
 | os o =>
  obtain ⟨ob,h1,h2,h3,h4⟩:=hL o (memN_iff.1 hw)
  simp only [SVRep,h1] at h
  rw [h2] at h;cases h.1
theorem SV.lends (hL:∀ o∈L,∃ ob,s.obs o=some (some ob)∧isRow ob=false∧fin o=some (some ob)∧(β' o).blk=(β₁ o).blk) (ht:Tr M w M' w):∀ {l:List SV} {us:List Value},l.all (SV.within L)=true→All2 (SVRep P s β₁ w M) l us→All2 (SVRep P (bare fin) β' w M') l us
 | [],[],_,_=>trivial
 | [],_::_,_,h=>h.elim
 | _::_,[],_,h=>h.elim
 | v::l,u::us,hl,h=>by
  simp only [List.all_cons,Bool.and_eq_true] at hl
  exact ⟨SV.lend hL ht hl.1 h.1,SV.lends hL ht hl.2 h.2⟩
theorem cFin_nobp {f:Nat} {caps:List SV} {m:MInv} {o:Nat} {ob:Ob}:∀ {args:List AK} {i:Nat} {bs:List Dv},(o,ob)∈cFin f caps m args i bs→∀ t x hs,ob≠.bp t x hs
 | .d _::r,i,vs,h=>cFin_nobp (args:=r) (i:=i+1) (bs:=vs) (by cases vs<;>exact h)
 | .row _ _::r,i,vs,h=>cFin_nobp (args:=r) (i:=i+1) (bs:=vs) (by cases vs<;>exact h)
 | .box _::r,i,⟨t,x⟩::vs,h=>by
  rcases List.mem_cons.1 h with e | h
  ·cases e;exact fun _ _ _ e=>by cases e
  ·exact cFin_nobp (args:=r) h
 | .box _::_,_,[],h=>by cases h
 | .via _::_,_,[],h=>by cases h
 | .via _::r,i,⟨t,x⟩::vs,h=>by
  have h:(o,ob)∈(pid i,Ob.bv (.s (.ptr (qid i) [])))::(qid i,.bx false t x)::cFin f caps m r (i+1) vs:=h
  rcases List.mem_cons.1 h with e | h
  ·cases e;exact fun _ _ _ e=>by cases e
  ·rcases List.mem_cons.1 h with e | h
   ·cases e;exact fun _ _ _ e=>by cases e
   ·exact cFin_nobp (args:=r) h
 | .mem::r,i,vs,h=>by
  have h:(o,ob)∈(pid i,Ob.bv (.s (.mp (qid i))))::(qid i,.mm m.tk m.tv m.inv)::cFin f caps m r (i+1) vs:=by cases vs<;>exact h
  rcases List.mem_cons.1 h with e | h
  ·cases e;exact fun _ _ _ e=>by cases e
  ·rcases List.mem_cons.1 h with e | h
   ·cases e;exact fun _ _ _ e=>by cases e
   ·exact cFin_nobp (args:=r) h
 | .self::r,i,vs,h=>by
  have h:(o,ob)∈(pid i,Ob.bv (.clo f caps))::cFin f caps m r (i+1) vs:=by cases vs<;>exact h
  rcases List.mem_cons.1 h with e | h
  ·cases e;exact fun _ _ _ e=>by cases e
  ·exact cFin_nobp (args:=r) h
 | [],_,vs,h=>by cases vs<;>cases h
theorem Ob.lend {f:Nat} {caps:List SV} (hL:∀ o∈L,∃ ob,s.obs o=some (some ob)∧isRow ob=false∧fin o=some (some ob)∧(β' o).blk=(β₁ o).blk) (ht:Tr M w M' w) (hcaps:caps.all (SV.within L)=true) {o:Nat} {ob:Ob}
  (hr:isRow ob=false) (hb:(β' o).blk=(β₁ o).blk) (hv:∀ v,ob=.bv v→(∃ q,v=.s q∧q.within L=true)∨v=.clo f caps) (hnp:∀ t x hs,ob≠.bp t x hs) (h:ObRep P s β₁ w M (β₁ o) ob):ObRep P (bare fin) β' w M' (β' o) ob:=by
 cases ob with
 | bx z t x =>
  obtain ⟨b,vs,e,h1,h2,h3⟩:=h
  exact ⟨b,vs,e,hb.trans h1,h2,h3.tr ht⟩
 | row f e t l=>cases hr
 | bv v =>
  obtain ⟨b,u,e,h1,h2,h3⟩:=h
  refine ⟨b,u,e,hb.trans h1,h2,?_⟩
  rcases hv v rfl with ⟨q,rfl,hq⟩ | rfl
  ·exact SV.lend (P:=P) (v:=q) hL ht hq h3
  ·obtain ⟨vs,e,h3⟩:=h3
   exact ⟨vs,e,SV.lends hL ht hcaps h3⟩
 | mm tk tv inv =>
  obtain ⟨b,es,ck,h1,h2,h3⟩:=h
  refine ⟨b,es,ck,hb.trans h1,h2,fun e he=>?_⟩
  obtain ⟨x,y,g1,g2,g3⟩:=h3 e he
  exact ⟨x,y,g1.tr ht,g2.tr ht,g3⟩
 | me f tk tv m =>
  obtain ⟨b,es,ck,h1,h2,hsm,h3⟩:=h
  exact ⟨b,es,ck,hb.trans h1,h2,hsm,h3.mono (fun _ _ h=>h.tr ht) fun _ _ h=>h.tr ht⟩
 | it tk tv m l =>
  obtain ⟨b,mp,since,seen,h1,h2,h3⟩:=h
  exact ⟨b,mp,since,seen,hb.trans h1,h2,h3.tr ht⟩
 | gh t x=>exact hb.trans h
 | bp t x hs=>exact absurd rfl (hnp t x hs)
 | rq _ _ _ _=>cases hr
 | rr _ _ _ _ _ _=>cases hr
end
theorem rid_not {args:List AK}:rid∉lentIds args 0:=fun h=>by
 have:=lent_ge h
 simp only [rid] at this
 omega
structure LendF (P:Program) (s:ASt) (β₁:Nat→Loc) (ids:List Nat) (fin:Nat→Option (Option Ob)) (β':Nat→Loc) (w:World) (M:Nat→Prop):Prop where
 lent:Lent P (bare fin) β' w M
 sub:∀ b,Mset M (bare fin) β' b→Mset M s β₁ b
 src:∀ o ob,fin o=some (some ob)→∀ b,(β' o).has b→∃ p,s.obs p=some (some ob)∧(β₁ p).has b∧(p∈ids∨fin rid=some (some ob)∧isRow ob=true)
theorem lend_out {P:Program} {K:Ctx} {s:ASt} {a:Act} {w:World} {β β₁ β':Nat→Loc} {f:Nat} {caps:List SV} {m:MInv} {args:List AK} {bs:List Dv} (h:RelB K s a w β₁) (hP:K.P=P) (F:FinF s f caps m args 0 bs) (hcaps:caps.all (SV.within (lentIds args 0))=true)
  (hpos:∀ o∈lentIds args 0,(β₁ o).blk=(β o).blk∧(β₁ o).sub=(β o).sub) {fin:Nat→Option (Option Ob)} (hβ:∀ o,o≠rid→β' o=β o) (hfin:∀ o,o≠rid→fin o=obsOf (cFin f caps m args 0 bs) o)
  (hrid:fin rid=none∨(∃ o e t l,fin rid=some (some (.row false e t l))∧β' rid=β₁ o∧s.obs o=some (some (.row false e t l))∧o∉lentIds args 0)∨∃ e t,fin rid=some (some (.row false e t []))∧β' rid=⟨none,.slice none 0 0,[]⟩) :
  LendF P s β₁ (lentIds args 0) fin β' w K.Mg:=by
 have hL:∀ o∈lentIds args 0,∃ ob,s.obs o=some (some ob)∧isRow ob=false∧fin o=some (some ob)∧(β' o).blk=(β₁ o).blk:=by
  intro o ho
  have hne:o≠rid:=fun e=>rid_not (e▸ho)
  obtain ⟨ob,hm⟩:=F.all o ho
  obtain ⟨ob',hm'⟩:=obsOf_some hm
  obtain ⟨h1,_,h2,_⟩:=F.obs o ob' (obsOf_mem hm')
  exact ⟨ob',h1,h2,(hfin o hne).trans hm',by rw [hβ o hne,(hpos o ho).1]⟩
 have hLs:∀ o∈lentIds args 0,(β' o).sub=(β₁ o).sub:=fun o ho=>by rw [hβ o fun e=>rid_not (e▸ho),(hpos o ho).2]
 have cases2:∀ o ob,fin o=some (some ob)→(o≠rid∧(o,ob)∈cFin f caps m args 0 bs)∨o=rid:=by
  intro o ob ho
  by_cases e:o=rid
  ·exact .inr e
  ·exact .inl ⟨e,obsOf_mem ((hfin o e).symm.trans ho)⟩
 have src:∀ o ob,fin o=some (some ob)→∀ b,(β' o).has b→∃ p,s.obs p=some (some ob)∧(β₁ p).has b∧((o=p∧p∈lentIds args 0)∨(o=rid∧p∉lentIds args 0∧isRow ob=true)):=by
  intro o ob ho b hb
  rcases cases2 o ob ho with ⟨hne,hm⟩ | rfl
  ·obtain ⟨h1,h2,_⟩:=F.obs o ob hm
   obtain ⟨ob',_,_,_,h4⟩:=hL o h2
   exact ⟨o,h1,by unfold Loc.has at hb ⊢;rw [←h4,←hLs o h2];exact hb,.inl ⟨rfl,h2⟩⟩
  ·rcases hrid with h1 | ⟨p,e,t,l,h1,h2,h3,h4⟩ | ⟨e,t,h1,h2⟩
   ·rw [h1] at ho;cases ho
   ·rw [h1] at ho;cases ho
    exact ⟨p,h3,h2▸hb,.inr ⟨rfl,h4,rfl⟩⟩
   ·rw [h2] at hb;cases one_blk hb
 have sub:∀ b,Mset K.Mg (bare fin) β' b→Mset K.Mg s β₁ b:=by
  rintro b (hb | ⟨o,ob,h1,h2,h3⟩)
  ·exact .inl hb
  ·obtain ⟨p,g1,g2,_⟩:=src o ob h1 b h3
   exact .inr ⟨p,ob,g1,h2,g2⟩
 have ht:Tr (Mset K.Mg s β₁) w (Mset K.Mg (bare fin) β') w:=⟨.refl _ _,fun b _ hb=>sub b hb⟩
 refine ⟨⟨?_,?_,?_,fun o ob ho hr=>?_⟩,sub,?_⟩
 rotate_left 3
 ·have ho:fin o=some (some ob):=ho
  rcases cases2 o ob ho with ⟨hne,hm⟩ | rfl
  ·obtain ⟨h1,h2,h3,h4⟩:=F.obs o ob hm
   obtain ⟨_,_,_,_,h5⟩:=hL o h2
   rw [hLs o h2];exact h.sb o ob h1 hr
  ·rcases hrid with h1 | ⟨p,e,t,l,h1,h2,h3,h4⟩ | ⟨e,t,h1,h2⟩
   ·rw [h1] at ho;cases ho
   ·rw [h2];exact h.sb p _ h3 rfl
   ·rw [h2]
 rotate_left 1
 ·intro o ob ho
  have ho:fin o=some (some ob):=ho
  rcases cases2 o ob ho with ⟨hne,hm⟩ | rfl
  ·obtain ⟨h1,h2,h3,h4⟩:=F.obs o ob hm
   obtain ⟨_,_,_,_,h5⟩:=hL o h2
   refine Ob.lend hL ht hcaps h3 h5 h4 (cFin_nobp hm) ?_
   rw [←hP];exact h.ob o ob h1
  ·rcases hrid with h1 | ⟨p,e,t,l,h1,h2,h3,h4⟩ | ⟨e,t,h1,h2⟩
   ·rw [h1] at ho;cases ho
   ·rw [h1] at ho;cases ho
    rw [h2]
    obtain ⟨g1,g2,vss,g3,g4⟩:=h.ob p _ h3
    rw [hP] at g3
    exact ⟨g1,g2,vss,g3.mono fun _ _ h=>h.tr ht,g4⟩
   ·rw [h1] at ho;cases ho
    rw [h2]
    exact ⟨by simp,rfl,[],trivial,by simp,.inl ⟨rfl,rfl⟩⟩
 ·intro o o' ob ob' b ho ho' hb hb'
  obtain ⟨p,g1,g2,g3⟩:=src o ob ho b hb
  obtain ⟨p',k1,k2,k3⟩:=src o' ob' ho' b hb'
  have hp:=h.inj p p' _ _ b g1 k1 g2 k2
  subst hp
  rcases g3 with ⟨e,g3⟩ | ⟨e,g3,_⟩<;>rcases k3 with ⟨e',k3⟩ | ⟨e',k3,_⟩
  ·rw [e,e']
  ·exact absurd g3 k3
  ·exact absurd k3 g3
  ·rw [e,e']
 ·intro o ob b ho hb
  obtain ⟨p,g1,g2,_⟩:=src o ob ho b hb
  exact h.dis p ob b g1 g2
 ·intro o ob ho b hb
  obtain ⟨p,g1,g2,g3⟩:=src o ob ho b hb
  refine ⟨p,g1,g2,?_⟩
  rcases g3 with ⟨_,g3⟩ | ⟨rfl,_,g3⟩
  ·exact .inl g3
  ·exact .inr ⟨ho,g3⟩
def posOf (obs:Nat→Option (Option Ob)) (β:Nat→Loc) (o:Nat):Option (Ob→Loc→Prop):=match obs o with
 | some (some ob)=>if isRow ob=false∧200000≤o then some (fun ob' L=>isRow ob'=false∧L.blk=(β o).blk∧L.sub=(β o).sub) else none
 | _=>none
theorem posOf_some {obs:Nat→Option (Option Ob)} {β:Nat→Loc} {o:Nat} {p:Ob→Loc→Prop} (h:posOf obs β o=some p):200000≤o∧p=(fun ob' L=>isRow ob'=false∧L.blk=(β o).blk∧L.sub=(β o).sub)∧∃ ob,obs o=some (some ob)∧isRow ob=false:=by
 unfold posOf at h
 split at h
 ·rename_i ob ho
  split at h
  ·rename_i hc
   cases h
   exact ⟨hc.2,rfl,ob,ho,hc.1⟩
  ·cases h
 ·cases h
def K1 (P:Program) (w:World) (M:Nat→Prop) (nt:Nat) (obs:Nat→Option (Option Ob)) (β:Nat→Loc):Ctx :=
 {P,w0:=w,Mg:=M,Ml:=Own (bare obs) β,Mf:=Own (bare obs) β,mlf:=fun _ h=>h,nt,pins:=[],fix:=fun _=>none,pos:=posOf obs β,posr:=fun _ _ h=>(posOf_some h).1,posk:=fun _ _ h _ _ _ hl hp=>(by rw [(posOf_some h).2.1] at hp ⊢;exact ⟨hl.2.1▸hp.1,hp.2⟩),nod:=False,gid:=0,J:=fun _ _ _ _=>True,Jst:=fun _ _ _ _ _ _ _ _ _ _=>trivial }
theorem ob_blk {P:Program} {s:ASt} {β:Nat→Loc} {w:World} {M:Nat→Prop} {L:Loc} {ob:Ob} (h:ObRep P s β w M L ob) (hr:isRow ob=false) (hg:isGh ob=false):∃ b,L.blk=some b:=by
 cases ob with
 | bx _ t x=>obtain ⟨b,_,_,h,_⟩:=h;exact ⟨b,h⟩
 | row _ _ _ _=>cases hr
 | rq _ _ _ _=>cases hr
 | rr _ _ _ _ _ _=>cases hr
 | bv _=>obtain ⟨b,_,_,h,_⟩:=h;exact ⟨b,h⟩
 | mm _ _ _=>obtain ⟨b,_,_,h,_⟩:=h;exact ⟨b,h⟩
 | me _ _ _ _=>obtain ⟨b,_,_,h,_⟩:=h;exact ⟨b,h⟩
 | it _ _ _ _=>obtain ⟨b,_,_,_,h,_⟩:=h;exact ⟨b,h⟩
 | gh _ _=>cases hg
 | bp _ _ _=>obtain ⟨b,_,_,_,h,_⟩:=h;exact ⟨b,h⟩
theorem obsOf_cases {o:Nat}:∀ {l:List (Nat × Ob)},obsOf l o=none∨∃ ob,(o,ob)∈l∧obsOf l o=some (some ob)
 | []=>.inl rfl
 | (k,ob)::l=>by
  by_cases e:o=k
  ·subst e;exact .inr ⟨ob,List.mem_cons_self,obsOf_hd⟩
  ·rw [obsOf_ne e]
   rcases obsOf_cases (o:=o) (l:=l) with h | ⟨ob',h1,h2⟩
   ·exact .inl h
   ·exact .inr ⟨ob',List.mem_cons_of_mem _ h1,h2⟩
theorem avOf_rep {P:Program} {s:ASt} {β:Nat→Loc} {w:World} {M:Nat→Prop}:∀ {dvs:List Dv} {us:List Value},All2 (fun (v:Value) (d:Dv)=>VRep P d.t w M v d.x) us dvs→AVRep P s β w M (avOf dvs) (resVal us)
 | [],[],_=>⟨[],rfl,trivial⟩
 | [_],[_],h=>h.1
 | [],_::_,h=>h.elim
 | _::_,[],h=>h.elim
 | [_],_::_::_,h=>h.2.elim
 | _::_::_,[_],h=>h.2.elim
 | d::d'::dvs,u::u'::us,h=>by
  refine ⟨u::u'::us,rfl,?_⟩
  have key:∀ {dvs:List Dv} {us:List Value},All2 (fun (v:Value) (d:Dv)=>VRep P d.t w M v d.x) us dvs→All2 (SVRep P s β w M) (dvs.map fun v=>.d v.t v.x) us:=by
   intro dvs
   induction dvs with
   | nil=>intro us h;cases us with
    | nil=>trivial
    | cons _ _=>exact h.elim
   | cons d dvs ih=>intro us h;cases us with
    | nil=>exact h.elim
    | cons u us=>exact ⟨h.1,ih h.2⟩
  exact key h
theorem All2.svs_obs {P:Program} {s s':ASt} {β:Nat→Loc} {w:World} {M:Nat→Prop} (e:s'.obs=s.obs) {l:List SV} {us:List Value} (h:All2 (SVRep P s β w M) l us):All2 (SVRep P s' β w M) l us :=
 h.mono fun _ _ h=>SVRep.next h (.of_obs β e) (.refl _ _)
theorem mset_obs {s s':ASt} {β:Nat→Loc} {M:Nat→Prop} (e:s'.obs=s.obs):Mset M s' β=Mset M s β:=by
 funext b;simp only [Mset,Own,e]
theorem pEq_eq {ch:List PanicEntry} {T:Nat} (h:pEq ch T=true):ch=pch T:=by
 unfold pEq at h
 split at h
 ·rename_i T' a T''
  simp only [Bool.and_eq_true,Array.isEmpty_iff] at h
  rw [Nat.eq_of_beq_eq_true h.1,h.2]
  rfl
 ·cases h
theorem leavesInM_mono {P:Program} {n:Nat} {fn:Func} {tmps:Array Value} {R R':Ending→World→Prop} (hR:∀ e w,R e w→R' e w):∀ {ds:List Deferred} {u:FrameMode} {w:World},LeavesInM (FF P none) n P fn tmps R ds u w→LeavesInM (FF P none) n P fn tmps R' ds u w
 | [],u,w,h=>by
  cases u with
  | run=>exact h.elim
  | returning=>obtain ⟨v,h1,h2⟩:=h;exact ⟨v,h1,hR _ _ h2⟩
  | panicking ch=>exact hR _ _ h
 | d::ds,u,w,h=>by
  obtain ⟨hu,h⟩:=h
  refine ⟨hu,?_⟩
  rcases h with ⟨r,w',h1,h2,h3⟩ | ⟨hd,fv,cap,f,args,h1,h2,h3,h4⟩
  ·exact .inl ⟨r,w',h1,h2,leavesInM_mono hR h3⟩
  ·refine .inr ⟨hd,fv,cap,f,args,h1,h2,h3,h4.mono fun e u' w' he=>?_⟩
   cases e with
   | returned v=>exact leavesInM_mono hR he
   | panicked ch=>exact leavesInM_mono hR he
   | outgrown=>exact hR _ _ he
theorem holdsX_of_vc {P:Program} {f:Nat} {fn:Func} {c:Code} {p:PCon} (hf:P.funcs[f]?=some fn) (hb:fn.body=some c) (hm:P.follows .mixedOrders=true) (hlen:fn.results.toList.length≤4) (hargs:p.l.args.length≤fn.ntmps)
  (hv:∀ x,p.l.pre x→∃ cx:Cx,CxOk P cx∧cx.yl=none∧cx.nt=fn.ntmps∧vcFunX cx fn f p x):HoldsX P f p:=by
 obtain ⟨k,exn,okk⟩:=p
 intro w M β vs x hlt hL hA hpre
 obtain ⟨cx,hcx,hyl,hnt,hvc⟩:=hv x hpre
 simp only [vcFunX,hb,Bool.cond_eq_ite] at hvc
 split at hvc
 next hcaps =>
  have hfit:Fit (K1 P w M fn.ntmps (obsOf (k.obs f x)) β) cx:=⟨hnt,hm,by rw [hyl];exact ⟨fun _ _ _ _=>trivial,id⟩⟩
  have hlv:vs.length≤fn.ntmps:=by
   have:=hA.length
   have h2:(k.svs x).length≤k.args.length:=svs_len
   have h3:k.args.length≤fn.ntmps:=hargs
   have h1:(k.svs x).length=vs.length:=this
   omega
  have h0:RelB (K1 P w M fn.ntmps (obsOf (k.obs f x)) β) ⟨initEnv (k.svs x),obsOf (k.obs f x)⟩ { tmps:=vs.toArray++Array.replicate (fn.ntmps - vs.toArray.size) undef,defers:=[] } w β:=by
   have eM:Mset M (⟨initEnv (k.svs x),obsOf (k.obs f x)⟩:ASt) β=Mset M (bare (obsOf (k.obs f x))) β:=mset_obs rfl
   refine ⟨.refl _ _,hlt,hL.dis,?_,hL.inj,?_,?_,?_,fun _ h=>(by cases h),List.nodup_nil,fun _=>rfl,fun _ h=>(by cases h),trivial,(fun _ _ h=>by cases h),?_,hL.sb⟩
   ·intro o ob ho
    have:=hL.ob o ob ho
    show ObRep P _ β w (Mset M _ β) (β o) ob
    rw [eM]
    exact this.next (.of_obs β rfl) (.refl _ _) fun _ _=>rfl
   ·intro o ob b ho hfz hb'
    exact .inr ⟨o,ob,ho,hfz,hb'⟩
   ·intro t
    refine init_env ?_ t
    show All2 (SVRep P _ β w (Mset M _ β)) _ _
    rw [eM]
    exact hA.svs_obs rfl
   ·simp only [Array.size_append,Array.size_replicate,List.size_toArray]
    show _=fn.ntmps
    omega
   ·intro o b hp
    obtain ⟨_,rfl,ob,h1,h2⟩:=posOf_some hp
    exact .inr ⟨ob,h1,h2,rfl,rfl⟩
  refine calls_of_wide (n:=0) (callsIn_of_wp_marks hf hb (by show (P.funcs[f]?).isSome=true;rw [hf];rfl) ?_)
  refine vc_sound loop_rule range_rule c (K1 P w M fn.ntmps (obsOf (k.obs f x)) β) none 0 hcx hfit trivial (fun _ _=>rfl) M _ _ _ _ _ _ hvc h0 noG_init ?_ fun _ _ _ h=>h.elim
  intro M' hM' e s a w' β₁ hq h hn
  have hM':=hM' hyl
  subst hM'
  have fin:finL cx s fn f k x→LeavesInM (FF P none) 0 P fn a.tmps (fun e w'=>∃ v β',e=.returned v∧Ext (Own (bare (obsOf (k.obs f x))) β) w w' ∧
   Lent P (bare (k.fin f x (unDs _ (k.val x)))) β' w' M' ∧
   (∀ o ob,o≠rid→k.fin f x (unDs _ (k.val x)) o=some (some ob)→β' o=β o) ∧
   (∀ b,(β' rid).has b→k.row.isSome=true→Own (bare (obsOf (k.obs f x))) β b∨w.heap.size≤b) ∧
   AVRep P (bare (k.fin f x (unDs _ (k.val x)))) β' w' (Mset M' (bare (k.fin f x (unDs _ (k.val x)))) β') (k.rav (unDs _ (k.val x))) v) a.defers .returning w':=by
   intro hq
   unfold finL at hq
   split at hq
   rotate_left
   ·exact hq.elim
   rename_i bs ps rs hfk hrs
   have common:∀ {vs':List Dv} {y:Ds (k.res++AK.boxes k.args)},mkDs (k.res++AK.boxes k.args) (vs'++bs)=some y→conj ps (Z.same y (k.val x))→FinF s f (k.caps x) (k.minv x) k.args 0 bs∧unDs _ (k.val x)=vs'++bs∧vs'.length=k.res.length:=by
    intro vs' y hmk hq
    obtain ⟨hps,hy⟩:=conj_all hq
    have hy:y=k.val x:=hy
    subst hy
    have F:=fin_facts hfk hps
    have hu:=unDs_mkDs hmk
    refine ⟨F,hu,?_⟩
    have h1:(unDs _ (k.val x)).length=(k.res++AK.boxes k.args).length:=by
     rw [←List.length_map (f:=(·.t)),unDs_types]
    rw [hu,List.length_append,List.length_append,F.len] at h1
    omega
   have hpos:∀ o∈lentIds k.args 0,FinF s f (k.caps x) (k.minv x) k.args 0 bs→(β₁ o).blk=(β o).blk∧(β₁ o).sub=(β o).sub:=by
    intro o ho F
    obtain ⟨ob,h1,h2,h3⟩:=lent_start (f:=f) (caps:=k.caps x) (m:=k.minv x) (dvs:=unDs _ x) unDs_types ho
    obtain ⟨b,hbk⟩:=ob_blk (hL.ob o ob h1) h2 h3
    have hge:=lent_ge ho
    have hp:posOf (obsOf (k.obs f x)) β o=some (fun ob' L=>isRow ob'=false∧L.blk=(β o).blk∧L.sub=(β o).sub):=by
     have h1:obsOf (k.obs f x) o=some (some ob):=h1
     unfold posOf
     rw [h1]
     show (if isRow ob=false∧200000≤o then _ else _)=_
     rw [if_pos ⟨h2,by omega⟩]
    obtain ⟨ob',hm'⟩:=F.all o ho
    have hso:=(F.obs o ob' hm').1
    rcases h.pos o _ hp with h4 | ⟨ob'',h4,h5,h6⟩
    ·rw [hso] at h4;cases h4
    ·exact h6
   refine leaves (fun d hd=>by obtain ⟨D,e1,e2,_⟩:=h.defs d hd;exact ⟨D,e1,e2⟩) h.dnd fun w'' h1 h2 hio=>?_
   obtain ⟨h3,h4⟩:=h.left rfl h1 h2 hio
   obtain ⟨us,r1,r2⟩:=res_rep hcx h3 hn hrs
   refine ⟨_,results_run (by simp) hlen r1,?_⟩
   have hns:∀ {o:Nat} {bs:List Dv},o∉lentIds k.args 0→FinF s f (k.caps x) (k.minv x) k.args 0 bs→obsOf (cFin f (k.caps x) (k.minv x) k.args 0 bs) o=none:=by
    intro o bs ho F
    rcases obsOf_cases (o:=o) (l:=cFin f (k.caps x) (k.minv x) k.args 0 bs) with h5 | ⟨ob,h5,_⟩
    ·exact h5
    ·exact absurd (F.obs o ob h5).2.1 ho
   split at hq
   ·-- no row
    rename_i hrow
    split at hq
    rotate_left
    ·exact hq.elim
    rename_i dvs hdv
    rw [Bool.cond_eq_ite] at hq
    split at hq
    rotate_left
    ·exact hq.elim
    rename_i hdj
    split at hq
    rotate_left
    ·exact hq.elim
    rename_i y hmk
    obtain ⟨F,hu,hl⟩:=common hmk hq
    have hfin:k.fin f x (unDs _ (k.val x))=obsOf (cFin f (k.caps x) (k.minv x) k.args 0 bs):=by
     unfold LCon.fin
     rw [hu,hrow,←hl,List.drop_left]
     rfl
    have hrav:k.rav (unDs _ (k.val x))=avOf dvs:=by
     unfold LCon.rav
     rw [hu,hrow,←hl,List.take_left]
    rw [hfin,hrav]
    have LF:=lend_out (β:=β) (β':=β) h3 rfl F hcaps (fun o ho=>hpos o ho F) (fin:=obsOf (cFin f (k.caps x) (k.minv x) k.args 0 bs)) (fun _ _=>rfl) (fun _ _=>rfl) (.inl (hns rid_not F))
    refine ⟨_,β,rfl,h3.frame,LF.lent,fun _ _ _ _=>rfl,fun b _ hr=>(by rw [hrow] at hr;cases hr),?_⟩
    refine avOf_rep (avs_rep hcx h3 r2 (optAll_all2 hdv) ⟨LF.sub,?_⟩)
    intro o ho b hbo hm
    have ho':=ho
    obtain ⟨av,_,hav⟩:=List.mem_flatMap.1 ho
    obtain ⟨ob,hob⟩:=open_live hav
    rcases hm with hm | ⟨o',ob',g1,g2,g3⟩
    ·exact h3.dis o ob b hob hbo hm
    ·obtain ⟨p,k1,k2,k3⟩:=LF.src o' ob' g1 b g3
     have:=h3.inj o p ob ob' b hob k1 hbo k2
     subst this
     rcases k3 with k3 | ⟨k3,_⟩
     ·exact disjN_not hdj ho' k3
     ·rw [hns rid_not F] at k3;cases k3
   ·-- a row
    rename_i e₀ hrow
    split at hq
    rotate_left
    ·exact hq.elim
    rename_i r
    split at hq
    rotate_left
    ·exact hq.elim
    rename_i v ids hro
    rw [Bool.cond_eq_ite] at hq
    split at hq
    rotate_left
    ·exact hq.elim
    rename_i hdj
    split at hq
    rotate_left
    ·exact hq.elim
    rename_i y hmk
    obtain ⟨F,hu,hl⟩:=common (vs':=[v]) hmk hq
    cases us with
    | nil=>exact r2.elim
    | cons u us =>
    cases us with
    | cons _ _=>exact r2.2.elim
    | nil =>
    have r2:=r2.1
    have hrav:k.rav (unDs _ (k.val x))=.s (.os rid):=by
     unfold LCon.rav
     rw [hrow]
    have hfin:∀ (t:Ty) (l:List t.D),v=⟨.sl t,l⟩→k.fin f x (unDs _ (k.val x))=put (obsOf (cFin f (k.caps x) (k.minv x) k.args 0 bs)) rid (some (some (.row false e₀ t l))):=by
     rintro t l rfl
     unfold LCon.fin
     rw [hu,hrow,←hl]
     rfl
    rw [hrav]
    have put_ne:∀ (t:Ty) (l:List t.D) (o:Nat),o≠rid→put (obsOf (cFin f (k.caps x) (k.minv x) k.args 0 bs)) rid (some (some (.row false e₀ t l))) o=obsOf (cFin f (k.caps x) (k.minv x) k.args 0 bs) o:=by
     intro t l o ho
     simp only [put,beq_ne ho,cond_false]
    have put_hd:∀ (t:Ty) (l:List t.D),put (obsOf (cFin f (k.caps x) (k.minv x) k.args 0 bs)) rid (some (some (.row false e₀ t l))) rid=some (some (.row false e₀ t l)):=by
     intro t l
     simp only [put,Nat.beq_refl,cond_true]
    cases r with
    | s sv =>
     cases sv with
     | nl e' t =>
      simp only [rowOf,Bool.cond_eq_ite] at hro
      split at hro
      ·cases hro
       rename_i he
       rw [hfin t [] rfl]
       obtain ⟨β',hβ⟩:∃ β':Nat→Loc,β'=fun o=>if o=rid then ⟨none,.slice none 0 0,[]⟩ else β o:=⟨_,rfl⟩
       have hβr:β' rid=⟨none,.slice none 0 0,[]⟩:=by rw [hβ];simp
       have hβn:∀ o,o≠rid→β' o=β o:=by intro o ho;rw [hβ];simp [ho]
       have LF:=lend_out (β:=β) (β':=β') h3 rfl F hcaps (fun o ho=>hpos o ho F) hβn (put_ne t []) (.inr (.inr ⟨e₀,t,put_hd t [],hβr⟩))
       refine ⟨_,β',rfl,h3.frame,LF.lent,fun o _ ho _=>hβn o ho,fun b hb' _=>(by rw [hβr] at hb';cases one_blk hb'),?_⟩
       simp only [AVRep,SVRep,bare,put_hd]
       exact ⟨rfl,by rw [hβr];exact r2⟩
      ·cases hro
     | os o =>
      simp only [rowOf] at hro
      split at hro
      ·rename_i e' t l ho
       rw [Bool.cond_eq_ite] at hro
       split at hro
       ·cases hro
        rename_i he
        have he:=Nat.eq_of_beq_eq_true he
        subst he
        rw [hfin t l rfl]
        obtain ⟨β',hβ⟩:∃ β':Nat→Loc,β'=fun o'=>if o'=rid then β₁ o else β o':=⟨_,rfl⟩
        have hβr:β' rid=β₁ o:=by rw [hβ];simp
        have hβn:∀ o,o≠rid→β' o=β o:=by intro o ho;rw [hβ];simp [ho]
        have hon:o∉lentIds k.args 0:=fun hh=>disjN_not hdj (List.mem_singleton.2 rfl) hh
        have LF:=lend_out (β:=β) (β':=β') h3 rfl F hcaps (fun o ho=>hpos o ho F) hβn (put_ne t l) (.inr (.inl ⟨o,e',t,l,put_hd t l,hβr,ho,hon⟩))
        refine ⟨_,β',rfl,h3.frame,LF.lent,fun o _ ho _=>hβn o ho,fun b hb' _=>?_,?_⟩
        ·rw [hβr] at hb'
         exact (h3.rng o _ b ho rfl hb').symm
        ·simp only [AVRep,SVRep,ho] at r2
         simp only [AVRep,SVRep,bare,put_hd]
         exact ⟨rfl,by rw [hβr];exact r2.2⟩
       ·cases hro
      ·cases hro
     | d _ _=>cases hro
     | ptr _ _=>cases hro
     | mp _=>cases hro
    | un=>cases hro
    | yl _=>cases hro
    | mv _ _ _=>cases hro
    | bm _ _=>cases hro
    | ag _ _ _=>cases hro
    | ex _=>cases hro
    | sn _ _ _ _=>cases hro
    | rqe _ _ _=>cases hro
    | ri _ _ _=>cases hro
    | rie _ _ _ _ _=>cases hro
    | clo _ _=>cases hro
    | tup _=>cases hro
  cases e with
  | normal=>exact leavesInM_mono (fun e w h=>.inl ⟨hq.1,h⟩) (fin hq.2)
  | ret=>exact leavesInM_mono (fun e w h=>.inl ⟨hq.1,h⟩) (fin hq.2)
  | panic ch =>
   have hq':(if pEq ch exn=true then Z.isF (okk x) else False):=hq
   clear hq
   split at hq'
   ·rename_i hpe
    have:=pEq_eq hpe
    subst this
    refine leavesP (fun d hd=>by obtain ⟨D,e1,e2,_⟩:=h.defs d hd;exact ⟨D,e1,e2⟩) h.dnd fun w'' h1 h2 hio=>?_
    obtain ⟨h3,_⟩:=h.left rfl h1 h2 hio
    exact .inr ⟨hq',rfl,h3.frame⟩
   ·exact hq'.elim
  | _=>exact hq.elim
 ·exact hvc.elim
theorem holdsL_of_vc {P:Program} {f:Nat} {fn:Func} {c:Code} {k:LCon} (hf:P.funcs[f]?=some fn) (hb:fn.body=some c) (hm:P.follows .mixedOrders=true) (hlen:fn.results.toList.length≤4) (hargs:k.args.length≤fn.ntmps)
  (hv:∀ x,k.pre x→∃ cx:Cx,CxOk P cx∧cx.yl=none∧cx.nt=fn.ntmps∧vcFunL cx fn f k x):HoldsL P f k:=by
 have hX:HoldsX P f ⟨k,0,fun _=>true⟩:=by
  refine holdsX_of_vc (p:=⟨k,0,fun _=>true⟩) hf hb hm hlen hargs fun x hpre=>?_
  obtain ⟨cx,h1,h2,h3,h4⟩:=hv x hpre
  refine ⟨cx,h1,h2,h3,?_⟩
  simp only [vcFunL,vcFunX,hb,Bool.cond_eq_ite] at h4 ⊢
  split at h4
  ·rename_i hc
   rw [if_pos hc]
   refine vc_mono _ _ _ _ h4 fun e s hq=>?_
   cases e with
   | normal=>exact ⟨trivial,hq⟩
   | ret=>exact ⟨trivial,hq⟩
   | _=>exact hq.elim
  ·exact h4.elim
 intro w M β vs x h1 h2 h3 h4
 refine (hX w M β vs x h1 h2 h3 h4).mono ?_
 rintro e w' (⟨_,h⟩ | ⟨h,_⟩)
 ·exact h
 ·cases h
end Go.Sx
/-
 The symbolic layer,part 30b: calls that are carried out in place: the callee's side.
-/
namespace Go.Sx
def posQ (obs:Nat→Option (Option Ob)) (β:Nat→Loc) (o:Nat):Option (Ob→Loc→Prop) :=
 if 200000≤o then match obs o with
  | some (some ob)=>some (fun ob' L=>LikeW ob ob'∧L=β o)
  | some none=>some (fun _ _=>False)
  | none=>none
 else none
theorem posQ_ge {obs:Nat→Option (Option Ob)} {β:Nat→Loc} {o:Nat} {p:Ob→Loc→Prop} (h:posQ obs β o=some p):200000≤o:=by
 unfold posQ at h
 split at h
 ·assumption
 ·cases h
theorem posQ_cases {obs:Nat→Option (Option Ob)} {β:Nat→Loc} {o:Nat} {p:Ob→Loc→Prop} (h:posQ obs β o=some p) :
  (∃ ob,obs o=some (some ob)∧p=fun ob' L=>LikeW ob ob'∧L=β o)∨(obs o=some none∧p=fun _ _=>False):=by
 unfold posQ at h
 split at h
 ·split at h
  ·cases h;exact .inl ⟨_,‹_›,rfl⟩
  ·cases h;exact .inr ⟨‹_›,rfl⟩
  ·cases h
 ·cases h
def KQ (P:Program) (w:World) (M:Nat→Prop) (nt:Nat) (obs:Nat→Option (Option Ob)) (β:Nat→Loc):Ctx :=
 {P,w0:=w,Mg:=M,Ml:=Own (bare obs) β,Mf:=Own (bare obs) β,mlf:=fun _ h=>h,nt,pins:=[],fix:=fun _=>none,pos:=posQ obs β,posr:=fun _ _ h=>posQ_ge h,
  posk:=fun _ _ h _ _ _ hl hp=>(by
   rcases posQ_cases h with ⟨ob,_,rfl⟩ | ⟨_,rfl⟩
   ·exact ⟨hp.1.trans hl,hp.2⟩
   ·exact hp),nod:=False,gid:=0,J:=fun _ _ _ _=>True,Jst:=fun _ _ _ _ _ _ _ _ _ _=>trivial }
theorem vcInl_mono {cx:Cx} {fn:Func} {l:List AV} {obs:Nat→Option (Option Ob)} {Q Q':AV→(Nat→Option (Option Ob))→Prop} (hq:∀ r obs',Q r obs'→Q' r obs') (h:vcInl cx fn l obs Q):vcInl cx fn l obs Q':=by
 unfold vcInl at h ⊢
 split at h
 ·exact h.elim
 ·refine vc_mono _ _ _ _ h fun e s he=>?_
  cases e with
  | normal =>
   dsimp only at he ⊢
   split at he
   ·exact hq _ _ he
   ·exact he.elim
  | ret =>
   dsimp only at he ⊢
   split at he
   ·exact hq _ _ he
   ·exact he.elim
  | _=>exact he.elim
def mkInl (f b fr:Nat) (cx:Cx) (fn:Func):Inl:=⟨f,b,fr,fun l obs Q=>cond (Nat.ble l.length fn.ntmps) (vcInl cx fn l obs Q) False,fun {l obs Q Q'} hq=>by
 cases Nat.ble l.length fn.ntmps with
 | true=>exact vcInl_mono hq
 | false=>exact id⟩
theorem oneAV_rep {P:Program} {s:ASt} {β:Nat→Loc} {w:World} {M:Nat→Prop} {rs:List AV} {us:List Value} {r:AV} (h:oneAV rs=some r) (hu:All2 (AVRep P s β w M) rs us):AVRep P s β w M r (resVal us):=by
 unfold oneAV at h
 split at h
 ·cases h
  cases us with
  | nil=>exact hu.elim
  | cons u us=>cases us with
   | nil=>exact hu.1
   | cons _ _=>exact hu.2.elim
 ·rename_i hne
  simp only [Option.map_eq_some_iff] at h
  obtain ⟨l,h1,rfl⟩:=h
  have hl:=svsOf_rep h1 hu
  have:resVal us=.tuple us.toArray:=by
   cases us with
   | nil=>rfl
   | cons u us=>cases us with
    | nil =>
     cases rs with
     | nil=>exact hu.elim
     | cons x rs=>cases rs with
      | nil=>exact absurd rfl (hne x)
      | cons _ _=>exact hu.2.elim
    | cons _ _=>rfl
  rw [this]
  exact ⟨us,rfl,hl⟩
theorem initEnvA_get:∀ {l:List AV} {t:Nat},initEnvA l t=match l[t]? with | some v=>⟨[],v⟩ | none=>⟨[],.un⟩
 | [],t=>by simp [initEnvA]
 | v::l,0=>rfl
 | v::l,t+1=>by simp only [initEnvA];rw [initEnvA_get];rfl
theorem init_envA {P:Program} {s:ASt} {β:Nat→Loc} {a:Act} {w:World} {M:Nat→Prop} {l:List AV} {vs:List Value} {r:Array Value} (h:All2 (AVRep P s β w M) l vs) (t:Nat):EntRep P s β a w M (initEnvA l t) ((vs.toArray++r).getD t undef):=by
 rw [initEnvA_get]
 have hl:=h.length
 cases hx:l[t]? with
 | none=>exact ⟨fun _=>trivial,fun hh=>absurd (fun x hx=>by cases hx) hh⟩
 | some v =>
  refine ⟨fun _=>?_,fun hh=>absurd (fun x hx=>by cases hx) hh⟩
  have hlt:t<l.length:=(List.getElem?_eq_some_iff.1 hx).1
  obtain ⟨u,hu⟩:∃ u,vs[t]?=some u:=⟨vs[t]'(by omega),List.getElem?_eq_getElem (by omega)⟩
  obtain ⟨v',hv',hr⟩:=h.get hu
  rw [hx] at hv';cases hv'
  have e:(vs.toArray++r).getD t undef=u:=by
   rw [Array.getD_eq_getD_getElem?,Array.getElem?_append_left (by simp;omega)]
   simp [hu]
  rw [e];exact hr
theorem noG_initA {l:List AV} {obs:Nat→Option (Option Ob)}:NoG ⟨initEnvA l,obs⟩:=by
 intro t
 show (initEnvA l t).g=[]
 rw [initEnvA_get]
 split<;>rfl
theorem holdsQ_of_vc {P:Program} {f:Nat} {fn:Func} {c:Code} {cx:Cx} {b' fr:Nat} (hf:P.funcs[f]?=some fn) (hb:fn.body=some c) (hm:P.follows .mixedOrders=true) (hlen:fn.results.toList.length≤4)
  (hcx:CxOk P cx) (hyl:cx.yl=none) (hnt:cx.nt=fn.ntmps):HoldsQ P f (mkInl f b' fr cx fn).T:=by
 intro w M β vs svs obs Q hlt hL hA hvc
 simp only [mkInl,Bool.cond_eq_ite] at hvc
 split at hvc
 rotate_left
 ·exact hvc.elim
 rename_i hll
 have hll:=Nat.le_of_ble_eq_true hll
 simp only [vcInl,hb] at hvc
 have hfit:Fit (KQ P w M fn.ntmps obs β) cx:=⟨hnt,hm,by rw [hyl];exact ⟨fun _ _ _ _=>trivial,id⟩⟩
 have hlv:vs.length≤fn.ntmps:=by
  have:=hA.length
  omega
 have h0:RelB (KQ P w M fn.ntmps obs β) ⟨initEnvA svs,obs⟩ { tmps:=vs.toArray++Array.replicate (fn.ntmps - vs.toArray.size) undef,defers:=[] } w β:=by
  have eM:Mset M (⟨initEnvA svs,obs⟩:ASt) β=Mset M (bare obs) β:=mset_obs rfl
  refine ⟨.refl _ _,hlt,hL.dis,?_,hL.inj,?_,?_,?_,fun _ h=>(by cases h),List.nodup_nil,fun _=>rfl,fun _ h=>(by cases h),trivial,(fun _ _ h=>by cases h),?_,hL.sb⟩
  ·intro o ob ho
   have:=hL.ob o ob ho
   show ObRep P _ β w (Mset M _ β) (β o) ob
   rw [eM]
   exact this.next (.of_obs β rfl) (.refl _ _) fun _ _=>rfl
  ·intro o ob b ho hfz hb'
   exact .inr ⟨o,ob,ho,hfz,hb'⟩
  ·intro t
   refine init_envA ?_ t
   show All2 (AVRep P _ β w (Mset M _ β)) _ _
   rw [eM]
   exact hA.mono fun _ _ h=>AVRep.next h (.of_obs β rfl) (.refl _ _)
  ·simp only [Array.size_append,Array.size_replicate,List.size_toArray]
   show _=fn.ntmps
   omega
  ·intro o p hp
   rcases posQ_cases hp with ⟨ob,h1,rfl⟩ | ⟨h1,rfl⟩
   ·exact .inr ⟨ob,h1,.refl _,rfl⟩
   ·exact .inl h1
 refine calls_of_wide (n:=0) (callsIn_of_wp_marks hf hb (by show (P.funcs[f]?).isSome=true;rw [hf];rfl) ?_)
 refine vc_sound loop_rule range_rule c (KQ P w M fn.ntmps obs β) none 0 hcx hfit trivial (fun _ _=>rfl) M _ _ _ _ _ _ hvc h0 noG_initA ?_ fun _ _ _ h=>h.elim
 intro M' hM' e s a w' β₁ hq h hn
 have hM':=hM' hyl
 subst hM'
 have fin:(match (resOf cx s fn.results.toList).bind oneAV with | some r=>Q r s.obs | none=>False)→LeavesInM (FF P none) 0 P fn a.tmps (fun e w'=>∃ v β' r obs',e=.returned v∧Q r obs'∧Ext (Own (bare obs) β) w w'∧Lent P (bare obs') β' w' M'∧CompW obs β obs' β' ∧
   (∀ o ob b,obs' o=some (some ob)→obFz ob=false→(β' o).has b→Own (bare obs) β b∨w.heap.size≤b)∧AVRep P (bare obs') β' w' (Mset M' (bare obs') β') r v) a.defers .returning w':=by
  intro hq
  split at hq
  rotate_left
  ·exact hq.elim
  rename_i r hr
  rw [Option.bind_eq_some_iff] at hr
  obtain ⟨rs,hrs,hr⟩:=hr
  refine leaves (fun d hd=>by obtain ⟨D,e1,e2,_⟩:=h.defs d hd;exact ⟨D,e1,e2⟩) h.dnd fun w'' h1 h2 hio=>?_
  obtain ⟨h3,h4⟩:=h.left rfl h1 h2 hio
  obtain ⟨us,r1,r2⟩:=res_rep hcx h3 hn hrs
  refine ⟨_,results_run (by simp) hlen r1,?_⟩
  have eM:Mset M' (bare s.obs) β₁=Mset M' s β₁:=mset_obs rfl
  refine ⟨_,β₁,r,s.obs,rfl,hq,h3.frame,⟨?_,h3.inj,h3.dis,h3.sb⟩,⟨?_,?_⟩,?_,?_⟩
  ·intro o ob ho
   have:=h3.ob o ob ho
   rw [eM]
   exact this.next (.of_obs β₁ rfl) (.refl _ _) fun _ _=>rfl
  ·intro o ho hd
   have hp:posQ obs β o=some (fun _ _=>False):=by unfold posQ;rw [if_pos ho,hd]
   rcases h3.pos o _ hp with h5 | ⟨_,_,h5⟩
   ·exact h5
   ·exact h5.elim
  ·intro o ho ob hd
   have hp:posQ obs β o=some (fun ob' L=>LikeW ob ob'∧L=β o):=by unfold posQ;rw [if_pos ho,hd]
   rcases h3.pos o _ hp with h5 | ⟨ob',h5,h6,h7⟩
   ·exact .inl h5
   ·exact .inr ⟨ob',h5,h7,h6⟩
  ·intro o ob b ho hfz hb'
   exact (h3.rng o ob b ho hfz hb').symm
  ·rw [eM]
   exact (oneAV_rep hr r2).next (.of_obs β₁ rfl) (.refl _ _)
 cases e with
 | normal=>exact fin hq
 | ret=>exact fin hq
 | _=>exact hq.elim
end Go.Sx
/-
 The symbolic layer,part 31: functions that call themselves;contracts that are narrowed.
-/
namespace Go.Sx
theorem enters_of {P:Program} {f:Nat} {fn:Func} {c:Code} (hf:P.funcs[f]?=some fn) (hname:(fn.name == "runtime.NumGoroutine")=false) (hb:fn.body=some c):Enters P f:=by
 intro args w
 have h1:fn.name ≠ "runtime.NumGoroutine" := by simpa using hname
 simp [callFunc,hf,h1,hb]
end Go.Sx
