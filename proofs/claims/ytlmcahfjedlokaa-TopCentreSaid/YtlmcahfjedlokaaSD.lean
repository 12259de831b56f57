/-
  The symbolic layer, part 18: calls; every operation.
-/
import Derived.Test.YtlmcahfjedlokaaSC
set_option linter.all false
namespace Go.Sx
section
variable {K:Ctx} {s:ASt} {a:Act} {w w':World} {β:Nat→Loc} {cx:Cx} {g:List (Nat × Bool)} {o:Oper} {e:Eff} {d:Nat}
variable {r:Option Nat} {n:Nat} {next:Act→World→Prop} {Q:Exit→Act→World→Prop}
theorem wpIn_of_run (hop:∀ c,o.op≠.defer c) {x:Next} {w':World} (hrun:(execOp a.eval o).run K.P w=.ok x w') (h:o.uponIn (FF K.P r) n K.P a next Q (.ok x w')):o.wpIn (FF K.P r) n K.P a w next Q:=by
 refine ⟨fun _ hf=>about_ex hrun hf,?_⟩
 rw [Oper.semAt_eq _ _ _ hop,hrun]
 exact h
theorem upon_did (hop:∀ c,o.op≠.defer c) (h:Did K s a w o e)
  (hn:∀ v w' β',RelB K (after s e.wr) a w' β'→AVRep K.P (after s e.wr) β' w' (Mset K.Mg (after s e.wr) β') e.av v→next (a.put o.dst v) w'):o.wpIn (FF K.P r) n K.P a w next Q:=by
 obtain ⟨v,w',β',h1,h2,h3⟩:=h
 refine wpIn_of_run hop h1 ?_
 exact hn v w' β' h2 h3
theorem upon_dids (hop:∀ c,o.op≠.defer c) (he:e.av=.un) (h:DidS K s a w o e)
  (hn:∀ v w' β',RelB K (after s e.wr) a w' β'→AVRep K.P (after s e.wr) β' w' (Mset K.Mg (after s e.wr) β') e.av v→next (a.put o.dst v) w'):o.wpIn (FF K.P r) n K.P a w next Q:=by
 obtain ⟨w',β',h1,h2⟩:=h
 refine wpIn_of_run hop h1 ?_
 exact hn undef w' β' h2 (by rw [he];trivial)
theorem upon_enter (hop:∀ c,o.op≠.defer c) {f:FuncId} {args:Array Value} (hrun:(execOp a.eval o).run K.P w=.ok (.enter f args) w) {R:Ending→World→Prop} (hc:CallsX K.P f args w R)
  (hR:∀ e w',R e w'→∃ v,e=.returned v∧next (a.put o.dst v) w'):o.wpIn (FF K.P r) n K.P a w next Q:=by
 refine wpIn_of_run hop hrun ?_
 refine ⟨fun h=>(by cases h),(callsIn_FF hc).mono ?_⟩
 intro e w' he
 obtain ⟨v,rfl,hv⟩:=hR e w' he
 exact hv
theorem upon_enter2 (hop:∀ c,o.op≠.defer c) {f:FuncId} {args:Array Value} (hrun:(execOp a.eval o).run K.P w=.ok (.enter f args) w) {R:Ending→World→Prop} (hc:CallsX K.P f args w R)
  (hR:∀ e w',R e w'→(∃ v,e=.returned v∧next (a.put o.dst v) w')∨∃ ch,e=.panicked ch∧Q (.panic ch) a w'):o.wpIn (FF K.P r) n K.P a w next Q:=by
 refine wpIn_of_run hop hrun ?_
 refine ⟨fun h=>(by cases h),(callsIn_FF hc).mono ?_⟩
 intro e w' he
 rcases hR e w' he with ⟨v,rfl,hv⟩ | ⟨ch,rfl,hv⟩<;>exact hv
theorem RelB.re2 {K1 K2:Ctx} {s:ASt} {a1 a2:Act} {w1 w2:World} {β:Nat→Loc} (h:RelB K1 s a1 w1 β) (hP:K2.P=K1.P) (hnt:K2.nt=K1.nt) (hta:a2.tmps.size=a1.tmps.size)
  (henv:∀ t,s.env t=⟨[],.un⟩∨(a2.tmps.getD t undef=a1.tmps.getD t undef∧((s.env t).g=[]∨a2.tmps=a1.tmps)))
  (hframe:Ext K2.Mf K2.w0 w2) (hmg:∀ b,K2.Mg b→b<w2.heap.size) (hdis:∀ o ob b,s.obs o=some (some ob)→(β o).has b→¬ K2.Mg b)
  (ht:Tr (Mset K1.Mg s β) w1 (Mset K2.Mg s β) w2) (hblk:∀ o ob b,s.obs o=some (some ob)→(β o).has b→w2.heap[b]?=w1.heap[b]?)
  (hrng:∀ o ob b,s.obs o=some (some ob)→obFz ob=false→(β o).has b→K2.w0.heap.size≤b∨K2.Ml b)
  (hdefs:∀ d∈a2.defers,∃ D,d={ target:=.collected D,args:=#[] }∧w2.heap[D]?=some (.deferred (some []))∧(¬ K2.Mg D∧K2.w0.heap.size≤D))
  (hpins:∀ x∈K2.pins,w2.heap[x.1]?=some x.2∧mach x.2=true)
  (hdnd:(a2.defers.map dof).Nodup) (hnod:K2.nod→a2.defers=[]) (hgh:K2.J (ghOf (s.obs K2.gid)) (Own s β) K2.Mg w2) (hfix:∀ t v,K2.fix t=some v→a2.tmps.getD t undef=v) (hpos:K2.pos=K1.pos):RelB K2 s a2 w2 β:=by
 have hcc:Compat s β s β:=.refl _ _
 refine ⟨hframe,hmg,hdis,?_,h.inj,hrng,?_,by rw [hta,h.size,hnt],hdefs,hdnd,hnod,hpins,hgh,hfix,by rw [hpos];exact h.pos,h.sb⟩
 ·intro o ob ho
  rw [hP]
  exact (h.ob o ob ho).next hcc ht fun b hb=>hblk o ob b ho hb
 ·intro t
  rw [hP]
  rcases henv t with e | ⟨e,eg⟩
  ·rw [e];exact ⟨fun _=>trivial,fun hh=>absurd (fun x hx=>by cases hx) hh⟩
  ·rw [e]
   rcases eg with eg | eg
   ·refine ⟨fun _=>((h.env t).1 (by rw [eg];intro x hx;cases hx)).next hcc ht,fun hh=>absurd (by rw [eg];intro x hx;cases hx) hh⟩
   ·exact ⟨fun hg=>((h.env t).1 (by unfold Hold at hg ⊢;rw [←eg];exact hg)).next hcc ht,fun hg=>(h.env t).2 fun hh=>hg (by unfold Hold at hh ⊢;rw [eg];exact hh)⟩
theorem RelB.re {K1 K2:Ctx} {s:ASt} {a1 a2:Act} {w1 w2:World} {β:Nat→Loc} (h:RelB K1 s a1 w1 β) (hP:K2.P=K1.P) (hnt:K2.nt=K1.nt) (hta:a2.tmps.size=a1.tmps.size)
  (henv:∀ t,s.env t=⟨[],.un⟩∨(a2.tmps.getD t undef=a1.tmps.getD t undef∧(s.env t).g=[]))
  (hframe:Ext K2.Mf K2.w0 w2) (hmg:∀ b,K2.Mg b→b<w2.heap.size) (hdis:∀ o ob b,s.obs o=some (some ob)→(β o).has b→¬ K2.Mg b)
  (ht:Tr (Mset K1.Mg s β) w1 (Mset K2.Mg s β) w2) (hblk:∀ o ob b,s.obs o=some (some ob)→(β o).has b→w2.heap[b]?=w1.heap[b]?)
  (hrng:∀ o ob b,s.obs o=some (some ob)→obFz ob=false→(β o).has b→K2.w0.heap.size≤b∨K2.Ml b)
  (hdefs:∀ d∈a2.defers,∃ D,d={ target:=.collected D,args:=#[] }∧w2.heap[D]?=some (.deferred (some []))∧(¬ K2.Mg D∧K2.w0.heap.size≤D))
  (hpins:∀ x∈K2.pins,w2.heap[x.1]?=some x.2∧mach x.2=true)
  (hdnd:(a2.defers.map dof).Nodup) (hnod:K2.nod→a2.defers=[]) (hgh:K2.J (ghOf (s.obs K2.gid)) (Own s β) K2.Mg w2) (hfix:∀ t v,K2.fix t=some v→a2.tmps.getD t undef=v) (hpos:K2.pos=K1.pos):RelB K2 s a2 w2 β :=
 h.re2 hP hnt hta (fun t=>(henv t).imp id fun x=>⟨x.1,.inl x.2⟩) hframe hmg hdis ht hblk hrng hdefs hpins hdnd hnod hgh hfix hpos
theorem RelB.gone (h:RelB K s a w β) (hx:Ext (Own s β) w w') (hJ:∀ g G M w,K.J g G M w):RelB K goneAll a w' β:=by
 have hpin:∀ (b:Nat) (o:Obj),w.heap[b]?=some o→mach o=true→w'.heap[b]?=some o:=by
  intro b o hbo hn
  refine (hx.2 b (Array.getElem?_eq_some_iff.1 hbo).1 ?_).trans hbo
  rintro ⟨o',ob,h1,_,h3⟩
  rcases (h.ob o' ob h1).block (h.sb o' ob h1) h3 with ⟨c,e,hc⟩ | ⟨c,e,hc⟩ | ⟨m,c,e,z,hc⟩
  ·rw [hbo] at hc;cases hc;cases hn
  ·rw [hbo] at hc;cases hc;cases hn
  ·rw [hbo] at hc;cases hc;cases hn
 refine ⟨?_,fun b hb=>Nat.lt_of_lt_of_le (h.mg b hb) hx.1,fun _ _ _ h=>(by cases h),fun _ _ h=>(by cases h),fun _ _ _ _ _ h=>(by cases h),fun _ _ _ h=>(by cases h),fun t=>⟨fun _=>trivial,fun hh=>absurd (fun x hx=>by cases hx) hh⟩,h.size,?_,h.dnd,h.nod,?_,hJ _ _ _ _,h.fix,fun _ _ _=>.inl rfl,fun _ _ h=>by cases h⟩
 ·refine ⟨Nat.le_trans h.frame.1 hx.1,fun b hb hn=>(hx.2 b (Nat.lt_of_lt_of_le hb h.frame.1) ?_).trans (h.frame.2 b hb hn),hx.io.1.trans h.frame.io.1,hx.io.2.trans h.frame.io.2⟩
  rintro ⟨o',ob,h1,h2,h3⟩
  rcases h.rng o' ob b h1 h2 h3 with h4 | h4
  ·omega
  ·exact hn (K.mlf b h4)
 ·intro d hd
  obtain ⟨D,rfl,hD,hm⟩:=h.defs d hd
  exact ⟨D,rfl,hpin D _ hD rfl,hm⟩
 ·intro x hx'
  obtain ⟨h1,h2⟩:=h.pins x hx'
  exact ⟨hpin x.1 x.2 h1 h2,h2⟩
theorem resAV {P:Program} {w:World} {M:Nat→Prop} {s:ASt} {β:Nat→Loc}:∀ {ts:List Ty} {v:Value} {x:Ds ts},RRep P w M ts v x →
  AVRep P s β w M (match unDs ts x with | [v]=>.s (.d v.t v.x) | l=>.tup (l.map fun v=>.d v.t v.x)) v
 | [],v,x,h=>⟨[],by rw [show v=_ from h],trivial⟩
 | [a],v,x,h=>h
 | a::b::r,v,x,h=>by
  obtain ⟨vs,rfl,h⟩:=h
  have key:∀ {ts:List Ty} {vs:List Value} {x:Ds ts},ARep P w M ts vs x→All2 (SVRep P s β w M) ((unDs ts x).map fun v=>.d v.t v.x) vs:=by
   intro ts
   induction ts with
   | nil=>intro vs x h;rw [show vs=_ from h];trivial
   | cons a ts ih =>
    intro vs x h
    cases ts with
    | nil=>obtain ⟨v,rfl,h⟩:=h;exact ⟨h,trivial⟩
    | cons b ts =>
     obtain ⟨v,vs,rfl,h1,h2⟩:=h
     exact ⟨h1,ih h2⟩
  have hne:∃ p q l,unDs (a::b::r) x=p::q::l:=by
   cases r with
   | nil=>exact ⟨_,_,_,rfl⟩
   | cons c r=>exact ⟨_,_,_,rfl⟩
  obtain ⟨p,q,l,hl⟩:=hne
  have:=key h
  rw [hl] at this ⊢
  exact ⟨vs,rfl,this⟩
theorem RRep.flat {P:Program} {w:World} {M M':Nat→Prop}:∀ {ts:List Ty} {v:Value} {x:Ds ts},ts.all Ty.flat=true→RRep P w M ts v x→RRep P w M' ts v x
 | [],v,x,_,h=>h
 | [a],v,x,hf,h=>VRep.flat (by simpa using hf) h
 | a::b::r,v,x,hf,⟨vs,h1,h2⟩=>by
  refine ⟨vs,h1,?_⟩
  have key:∀ {ts:List Ty} {vs:List Value} {x:Ds ts},ts.all Ty.flat=true→ARep P w M ts vs x→ARep P w M' ts vs x:=by
   intro ts
   induction ts with
   | nil=>intro vs x _ h;exact h
   | cons a ts ih =>
    intro vs x hf h
    simp only [List.all_cons,Bool.and_eq_true] at hf
    cases ts with
    | nil=>obtain ⟨v,rfl,h⟩:=h;exact ⟨v,rfl,VRep.flat hf.1 h⟩
    | cons b ts =>
     obtain ⟨v,vs,rfl,h1,h2⟩:=h
     exact ⟨v,vs,rfl,VRep.flat hf.1 h1,ih hf.2 h2⟩
  exact key hf h2
theorem SV.dvB_rep (h:RelB K s a w β) {x:SV} {v:Dv} {u:Value} (hx:SVRep K.P s β w (Mset K.Mg s β) x u) (hd:x.dvB s=some v):VRep K.P v.t w K.Mg u v.x:=by
 have old:∀ {x:SV} {v:Dv},SVRep K.P s β w (Mset K.Mg s β) x u→x.dv s=some v→VRep K.P v.t w K.Mg u v.x:=fun hx hd =>
  SV.dv_rep h hx hd (under_mg h fun q hq=>open_live (x:=.s _) hq)
 unfold SV.dvB at hd
 split at hd
 ·rename_i o
  split at hd
  ·rename_i t y hs ho
   split at hd
   ·rename_i ws hws
    simp only [Option.map_eq_some_iff] at hd
    obtain ⟨z,hz,rfl⟩:=hd
    simp only [SVRep,ho] at hx
    obtain ⟨_,b,off,hb,hp,rfl⟩:=hx
    have h0:off=0:=by
     simp only [obPos,offP_nil,Option.map_some,Option.some.injEq] at hp
     exact hp.symm
    subst h0
    obtain ⟨b',vs,et,us,hb',hh,hr,hus⟩:=h.ob _ _ ho
    rw [hb] at hb';cases hb'
    have htr:Tr (Mset K.Mg s β) w K.Mg w:=⟨.refl _ _,fun b _ hb=>.inl hb⟩
    have hsv:All2 (SVRep K.P s β w (Mset K.Mg s β)) (hs.map (·.2)) (us.map (·.2)):=by
     have key:∀ {hs:List (List Stp × SV)} {us:List (Nat × Value)},All2 (HR K.P s β w (Mset K.Mg s β) t vs.length) hs us→All2 (SVRep K.P s β w (Mset K.Mg s β)) (hs.map (·.2)) (us.map (·.2)):=by
      intro hs
      induction hs with
      | nil=>intro us hh;cases us with
       | nil=>trivial
       | cons _ _=>exact hh.elim
      | cons x l ih=>intro us hh;cases us with
       | nil=>exact hh.elim
       | cons u us=>exact ⟨hh.1.2.2.2,ih hh.2⟩
     exact key hus
    have hparts:=dvs_rep h (M':=K.Mg) hsv (optAll_all2 hws) (under_mg h fun q hq=>by
     obtain ⟨sv,_,hq⟩:=List.mem_flatMap.1 hq
     exact open_live (x:=.s sv) hq)
    have hz':=putH_rep (hr.tr htr) hus hparts hz
    refine ⟨_,⟨b,0,sets vs us,rfl,⟨(Array.getElem?_eq_some_iff.1 hh).1,h.dis _ _ _ ho (.inl hb)⟩,hz',⟨_,_,_,hh,fun j v hj=>by simpa using hj⟩⟩,rfl⟩
   ·cases hd
  ·exact old hx hd
 ·exact old hx hd
theorem AV.dvB_rep (hcx:CxOk K.P cx) (h:RelB K s a w β) {x:AV} {v:Dv} {u:Value} (hx:AVRep K.P s β w (Mset K.Mg s β) x u) (hd:x.dvB cx s=some v):VRep K.P v.t w K.Mg u v.x:=by
 unfold AV.dvB at hd
 split at hd
 ·exact SV.dvB_rep h hx hd
 ·rename_i t y hs
  have hag:t.agg=true:=by cases hag:t.agg with
   | true=>rfl
   | false=>rw [hag] at hd;cases hd
  rw [hag,cond_true] at hd
  split at hd
  ·rename_i ws hws
   simp only [Option.map_eq_some_iff] at hd
   obtain ⟨z,hz,rfl⟩:=hd
   obtain ⟨vs,us,rfl,hr,hus⟩:=hx
   have htr:Tr (Mset K.Mg s β) w K.Mg w:=⟨.refl _ _,fun b _ hb=>.inl hb⟩
   have key:∀ {hs:List (List Stp × SV)} {us:List (Nat × Value)},All2 (HR K.P s β w (Mset K.Mg s β) t vs.length) hs us→All2 (SVRep K.P s β w (Mset K.Mg s β)) (hs.map (·.2)) (us.map (·.2)):=by
    intro hs
    induction hs with
    | nil=>intro us hh;cases us with
     | nil=>trivial
     | cons _ _=>exact hh.elim
    | cons x l ih=>intro us hh;cases us with
     | nil=>exact hh.elim
     | cons u us=>exact ⟨hh.1.2.2.2,ih hh.2⟩
   have hparts:=dvs_rep h (M':=K.Mg) (key hus) (optAll_all2 hws) (under_mg h fun q hq=>by
    obtain ⟨sv,hsv,hq⟩:=List.mem_flatMap.1 hq
    exact open_live (x:=.s sv) hq)
   refine ⟨_,putH_rep (hr.tr htr) hus hparts hz,?_⟩
   simp only [pack,hag,cond_true]
  ·cases hd
 ·rename_i f c
  split at hd
  ·rename_i k hk
   exact iconDv_rep hcx h hk hx hd (under_mg h fun q hq=>open_live (x:=.clo f c) hq)
  ·obtain ⟨us,rfl,hus⟩:=hx
   refine cloDvC_rep hcx hd fun caps hc=>?_
   have key:∀ {c:List SV} {caps:List Dv} {us:List Value},All2 (SVRep K.P s β w (Mset K.Mg s β)) c us→All2 (fun x y=>SV.dvB s x=some y) c caps→All2 (fun (u:Value) (d:Dv)=>VRep K.P d.t w K.Mg u d.x) us caps:=by
    intro c
    induction c with
    | nil=>intro caps us h1 h2;cases us with
     | cons _ _=>exact h1.elim
     | nil=>cases caps with
      | cons _ _=>exact h2.elim
      | nil=>trivial
    | cons x c ih=>intro caps us h1 h2;cases us with
     | nil=>exact h1.elim
     | cons u us=>cases caps with
      | nil=>exact h2.elim
      | cons d caps=>exact ⟨SV.dvB_rep h h1.1 h2.1,ih h1.2 h2.2⟩
   exact key hus (optAll_all2 hc)
 ·exact AV.dv_rep hcx h hx hd (under_mg h fun q hq=>open_live hq)
theorem avsB_rep (hcx:CxOk K.P cx) (h:RelB K s a w β):∀ {l:List AV} {vs:List Dv} {us:List Value},All2 (AVRep K.P s β w (Mset K.Mg s β)) l us→All2 (fun x y=>AV.dvB cx s x=some y) l vs→All2 (fun (u:Value) (d:Dv)=>VRep K.P d.t w K.Mg u d.x) us vs
 | [],[],[],_,_=>trivial
 | _::_,_::_,_::_,h1,h2=>⟨AV.dvB_rep hcx h h1.1 h2.1,avsB_rep hcx h h1.2 h2.2⟩
 | [],_::_,_,_,h=>h.elim
 | _::_,[],_,_,h=>h.elim
 | [],[],_::_,h,_=>h.elim
 | _::_,_::_,[],h,_=>h.elim
theorem NilZ.av {ts:List Ty} {x:Ds ts} {v:Value} (h:NilZ ts x v) (t:Ty) (l:List t.D) (he:((match unDs ts x with
  | [v]=>.s (.d v.t v.x)
  | l=>.tup (l.map fun v=>.d v.t v.x):AV))=.s (.d (.sl t) l)) (hl:l=[]):v=.slice none 0 0:=by
 refine h t l ?_ hl
 revert he
 cases unDs ts x with
 | nil=>intro he;cases he
 | cons a r =>
  cases r with
  | nil =>
   intro he
   obtain ⟨ta,xa⟩:=a
   cases he
   rfl
  | cons b r=>intro he;cases he
theorem upon_callZ (hcx:CxOk K.P cx) (h:RelB K s a w β) (hop:∀ c,o.op≠.defer c) {f:Nat} {args:List AV} {us:List Value} (hus:All2 (AVRep K.P s β w (Mset K.Mg s β)) args us) (he:callEff cx s f args=some e) (hob:∀ r,e.obl=some r→r)
  (hrun:(execOp a.eval o).run K.P w=(callFunc f us.toArray).run K.P w)
  (hn:∀ v w' β',RelB K (after s e.wr) a w' β'→AVRep K.P (after s e.wr) β' w' (Mset K.Mg (after s e.wr) β') e.av v→(nzCon cx f=true→∀ (t:Ty) (l:List t.D),e.av=.s (.d (.sl t) l)→l=[]→v=.slice none 0 0)→next (a.put o.dst v) w'):o.wpIn (FF K.P r) n K.P a w next Q:=by
 unfold callEff at he
 split at he
 ·cases he
 ·rename_i k hk
  simp only at he
  split at he
  ·cases he
  ·rename_i vs hvs
   split at he
   ·cases he
   ·rename_i x hx
    simp only [Option.some.injEq] at he
    subst he
    obtain ⟨hent,hh⟩:=hcx.con f k hk
    have hpre:k.pre x:=hob _ rfl
    cases hfl:k.res.all Ty.flat with
    | true =>
     rw [hfl] at hvs
     have harg:=avsB_rep hcx h hus (optAll_all2 hvs)
     have hA:=mkDs_rep (coes_rep _ harg) hx
     refine upon_enter hop (hrun.trans (hent _ _)) (hh w K.Mg us x h.mg hA hpre) ?_
     rintro e w' ⟨v,rfl,hext,hR,hZ⟩
     obtain ⟨g1,g2⟩:=h.grow hext
     refine ⟨v,rfl,hn v w' β ?_ ?_ (fun hz t l he hl=>(hZ (by unfold nzCon at hz;rw [hk] at hz;exact hz)).av t l he hl)⟩
     ·rw [hfl];exact g1
     ·rw [hfl];exact resAV (hR.flat hfl)
    | false =>
     rw [hfl] at hvs
     have hs:solid cx s args=some (vs,args.flatMap AV.ids,freeze s (args.flatMap (AV.open? s))):=by
      unfold solid;rw [show optAll (AV.dv cx s) args=some vs from hvs]
     obtain ⟨h1,h2,h3,h4⟩:=solid_rep hcx h hs hus
     have hA:=mkDs_rep (coes_rep _ h4) hx
     refine upon_enter hop (hrun.trans (hent _ _)) (hh w _ us x (fun b hb=>h1.mset_lt hb) hA hpre) ?_
     rintro e w' ⟨v,rfl,hext,hR,hZ⟩
     obtain ⟨g1,g2⟩:=h1.grow hext
     refine ⟨v,rfl,hn v w' β ?_ ?_ (fun hz t l he hl=>(hZ (by unfold nzCon at hz;rw [hk] at hz;exact hz)).av t l he hl)⟩
     ·rw [hfl];exact g1
     ·rw [hfl];exact resAV hR
theorem upon_call (hcx:CxOk K.P cx) (h:RelB K s a w β) (hop:∀ c,o.op≠.defer c) {f:Nat} {args:List AV} {us:List Value} (hus:All2 (AVRep K.P s β w (Mset K.Mg s β)) args us) (he:callEff cx s f args=some e) (hob:∀ r,e.obl=some r→r)
  (hrun:(execOp a.eval o).run K.P w=(callFunc f us.toArray).run K.P w)
  (hn:∀ v w' β',RelB K (after s e.wr) a w' β'→AVRep K.P (after s e.wr) β' w' (Mset K.Mg (after s e.wr) β') e.av v→next (a.put o.dst v) w'):o.wpIn (FF K.P r) n K.P a w next Q :=
 upon_callZ hcx h hop hus he hob hrun fun v w' β' h1 h2 _=>hn v w' β' h1 h2
theorem after_append (s:ASt) (A B:List (Nat × Option Ob)):after s (A++B)=after (after s B) A:=by
 induction A with
 | nil=>rfl
 | cons x A ih =>
  obtain ⟨k,v⟩:=x
  rw [List.cons_append,after_cons,ih,after_cons]
theorem after_out (s:ASt) (A:List (Nat × Option Ob)) {x:Nat} (h:x∉A.map (·.1)):(after s A).obs x=s.obs x:=by
 induction A with
 | nil=>rfl
 | cons y A ih =>
  obtain ⟨k,v⟩:=y
  simp only [List.map_cons,List.mem_cons,not_or] at h
  rw [after_cons]
  show put (after s A).obs k (some v) x=_
  rw [put_other _ _ h.1,ih h.2]
theorem after_in (s:ASt) (A:List (Nat × Option Ob)) (hn:(A.map (·.1)).Nodup) {x:Nat} {v:Option Ob} (h:(x,v)∈A):(after s A).obs x=some v:=by
 induction A with
 | nil=>cases h
 | cons y A ih =>
  obtain ⟨k,u⟩:=y
  have hn:=List.nodup_cons.1 (show (k::A.map (·.1)).Nodup from hn)
  rw [after_cons]
  show put (after s A).obs k (some u) x=_
  rcases List.mem_cons.1 h with h | h
  ·cases h;exact put_same _ _ _
  ·rw [put_other _ _ (fun e=>hn.1 (List.mem_map.2 ⟨_,h,e⟩))]
   exact ih hn.2 h
theorem after_none (s:ASt) (A:List Nat) {x:Nat} (h:x∈A):(after s (A.map fun o=>(o,none))).obs x=some none:=by
 induction A with
 | nil=>cases h
 | cons y A ih =>
  rw [List.map_cons,after_cons]
  show put _ y _ x=_
  by_cases e:x=y
  ·subst e;exact put_same _ _ _
  ·rw [put_other _ _ e]
   exact ih ((List.mem_cons.1 h).resolve_left e)
theorem capTws {s₀ s₁:ASt} {β₀ β₁:Nat→Loc} {ren:List (Nat × Option Nat)} {sol:List AV} {l:List (Nat × Ob)}
  (hptr:∀ p o,(p,some o)∈ren→(∃ ob,s.obs o=some (some ob)∧(isBv ob=true∨isBx ob=true))→β₁ p=β₀ o∧(∃ ob,s₀.obs o=some (some ob)∧(isBv ob=true∨isBx ob=true))∧∃ ob,s₁.obs p=some (some ob)∧(isBv ob=true∨isBx ob=true)) :
  ∀ {c cc:List SV},All2 (VTw cx s ren sol l) (c.map .s) cc→capsOk c cc=true→All2 (CapTw s₀ s₁ β₀ β₁) c cc
 | [],[],_,_=>trivial
 | a::c,b::cc,h,hc=>by
  obtain ⟨h1,h2⟩:=h
  cases a with
  | d t x =>
   cases b with
   | d t' x' =>
    refine ⟨?_,capTws hptr h2 hc⟩
    cases h1 with
    | d h _=>cases h;exact .d
   | _=>cases hc
  | ptr o p =>
   cases p with
   | cons _ _=>cases b<;>cases hc
   | nil =>
    cases b with
    | ptr q p' =>
     cases p' with
     | cons _ _=>cases hc
     | nil =>
      refine ⟨?_,capTws hptr h2 hc⟩
      cases h1 with
      | ptr hr h hl hb =>
       obtain ⟨k1,k2,k3⟩:=hptr _ _ hr ⟨_,h,by rcases hb with hb | ⟨t,y,e,_⟩;exact .inl hb.1;exact .inr (by rw [e];rfl)⟩
       exact .ptr k1 k2 k3
    | _=>cases hc
  | _=>cases b<;>cases hc
 | [],_::_,h,_=>h.elim
 | _::_,[],h,_=>h.elim
theorem callLEff_form {f:Nat} {k:LCon} {args:List AV} {caps:List SV} (he:callLEff cx s d f k args caps=some e) :
  ∃ m x,matchK cx s f caps k.args 0 (args++caps.map .s)=some m∧mkDs (AK.ins k.args) m.dvs=some x∧k.ncap=caps.length∧k.ncap≤k.args.length∧capsOk caps (k.caps x)=true ∧
   (m.ren.filterMap (·.2)).Nodup∧disjN (m.ren.filterMap (·.2)) (m.sol.flatMap (AV.open? s))=true ∧
   (∀ r,(∀ r',e.obl=some r'→r')→(k.pre x∧(allP m.eqs∧allP (m.mms.map fun a=>Z.same a (k.minv x)))→r)→r) ∧
   ((k.row=none∧e.av=avOf ((unDs _ (k.val x)).take k.res.length) ∧
     e.wr=m.rows.map (fun o=>(o,none))++(boxWr m.bxs ((unDs _ (k.val x)).drop k.res.length)++freeze s (m.sol.flatMap (AV.open? s)))) ∨
   ∃ e₀ t l r,k.row=some e₀∧unDs _ (k.val x)=⟨.sl t,l⟩::r∧s.obs d=none∧k.res.length=1∧e.av=.s (.os d) ∧
     e.wr=(d,some (.row false e₀ t l))::(m.rows.map (fun o=>(o,none))++(boxWr m.bxs ((unDs _ (k.val x)).drop k.res.length)++freeze s (m.sol.flatMap (AV.open? s))))):=by
 unfold callLEff at he
 split at he
 ·cases he
 ·rename_i m hm
  split at he
  ·cases he
  ·rename_i x hx
   simp only at he
   obtain ⟨hc,he⟩:=cond_none he
   simp only [Bool.and_eq_true] at hc
   obtain ⟨⟨c1,c2,c3⟩,c4,c5⟩:=hc
   refine ⟨m,x,hm,hx,Nat.eq_of_beq_eq_true c1,Nat.le_of_ble_eq_true c2,c3,nodup_of c4,c5,?_⟩
   split at he
   ·rename_i hrow
    cases he
    exact ⟨fun r h1 h2=>h2 (h1 _ rfl),.inl ⟨hrow,rfl,rfl⟩⟩
   ·rename_i e₀ t t' l r hrow hres hout
    split at he
    ·rename_i hobs
     obtain ⟨_,he⟩:=cond_opt' he
     subst he
     exact ⟨fun r h1 h2=>h2 (h1 _ rfl),.inr ⟨e₀,t',l,r,hrow,hout,hobs,by rw [hres];rfl,rfl,rfl⟩⟩
    ·cases he
   ·cases he
theorem svs_avs' {P:Program} {β:Nat→Loc} {w:World} {M:Nat→Prop}:∀ {l:List SV} {us:List Value},All2 (SVRep P s β w M) l us→All2 (AVRep P s β w M) (l.map .s) us
 | [],[],_=>trivial
 | _::_,_::_,h=>⟨h.1,svs_avs' h.2⟩
 | [],_::_,h=>h.elim
 | _::_,[],h=>h.elim
theorem data_rep {P:Program} {sA sB:ASt} {βA βB:Nat→Loc} {w:World} {MA MB:Nat→Prop} (hsub:∀ b,b<w.heap.size→MB b→MA b) {l:List Dv} {v:Value}
  (h:AVRep P sA βA w MA (avOf l) v):AVRep P sB βB w MB (avOf l) v:=by
 have key:∀ {l:List Dv} {vs:List Value},All2 (SVRep P sA βA w MA) (l.map fun v=>.d v.t v.x) vs→All2 (SVRep P sB βB w MB) (l.map fun v=>.d v.t v.x) vs:=by
  intro l
  induction l with
  | nil=>intro vs h;cases vs with
   | nil=>trivial
   | cons _ _=>exact h.elim
  | cons a l ih=>intro vs h;cases vs with
   | nil=>exact h.elim
   | cons v vs=>exact ⟨VRep.sub h.1 hsub,ih h.2⟩
 match l,h with
 | [],h=>obtain ⟨vs,h1,h2⟩:=h;exact ⟨vs,h1,key (l:=[]) h2⟩
 | [_],h=>exact VRep.sub h hsub
 | _::_::_,h=>obtain ⟨vs,h1,h2⟩:=h;exact ⟨vs,h1,key (l:=_::_::_) h2⟩
theorem RelB.lose (h:RelB K s a w β) {L:List Nat} (hL:∀ o∈L,ghOf (s.obs o)=none) (hx:Ext (fun b=>∃ o∈L,∃ ob,s.obs o=some (some ob)∧obFz ob=false∧(β o).has b) w w'):RelB K (after s (L.map fun o=>(o,none))) a w' β:=by
 have hin:∀ o∈L,(after s (L.map fun o=>(o,none))).obs o=some none:=fun o ho=>after_none _ _ ho
 have hout:∀ o,o∉L→(after s (L.map fun o=>(o,none))).obs o=s.obs o:=fun o ho=>after_out _ _ (by simpa [List.map_map,Function.comp_def] using ho)
 have hlive:∀ o ob,(after s (L.map fun o=>(o,none))).obs o=some (some ob)→o∉L∧s.obs o=some (some ob):=by
  intro o ob ho
  by_cases hl:o∈L
  ·rw [hin o hl] at ho;cases ho
  ·rw [hout o hl] at ho;exact ⟨hl,ho⟩
 have hown:∀ b,Own (after s (L.map fun o=>(o,none))) β b→Own s β b:=by
  rintro b ⟨o,ob,h1,h2,h3⟩
  exact ⟨o,ob,(hlive o ob h1).2,h2,h3⟩
 refine (h.step ⟨fun o ho=>?_,fun o ob ho=>?_⟩ (hx.mono fun b _ ⟨o,_,ob,h1,h2,h3⟩=>⟨o,ob,h1,h2,h3⟩) (fun b _ hb=>hown b hb) (fun o ob ho=>.inl ⟨(hlive o ob ho).2,rfl,fun b hb=>?_⟩)
  (fun o o' ob ob' b ho ho' hb hb'=>h.inj o o' ob ob' b (hlive o ob ho).2 (hlive o' ob' ho').2 hb hb') (fun o ob b ho hb=>.inr ⟨o,ob,(hlive o ob ho).2,id,hb⟩) rfl ?_).1
 ·by_cases hl:o∈L
  ·exact hin o hl
  ·rw [hout o hl];exact ho
 ·by_cases hl:o∈L
  ·exact .inl (hin o hl)
  ·exact .inr ⟨ob,by rw [hout o hl];exact ho,rfl,.refl _⟩
 ·refine hx.2 b (h.blk_lt (hlive o ob ho).2 hb) ?_
  rintro ⟨o',h1,ob',h2,h3,h4⟩
  have:=h.inj o o' ob ob' b (hlive o ob ho).2 h2 hb h4
  subst this
  exact (hlive o ob ho).1 h1
 ·by_cases hl:K.gid∈L
  ·rw [hin _ hl,hL _ hl];rfl
  ·rw [hout _ hl]
theorem callLG (hcx:CxOk K.P cx) (h:RelB K s a w β) {f:Nat} {p:PCon} (hX:HoldsX K.P f p) {N:Value→World→Prop} {X:List PanicEntry→World→Prop} {args:List AV} {caps:List SV} {us vs:List Value}
  (hus:All2 (AVRep K.P s β w (Mset K.Mg s β)) args us) (hcs:All2 (SVRep K.P s β w (Mset K.Mg s β)) caps vs) (he:callLEff cx s d f p.l args caps=some e) (hob:∀ r,e.obl=some r→r)
  (hp:∀ m x w',matchK cx s f caps p.l.args 0 (args++caps.map .s)=some m→mkDs (AK.ins p.l.args) m.dvs=some x→p.ok x=false→Ext (Own s β) w w'→((∀ g G M w,K.J g G M w)→RelB K goneAll a w' β)→RelB K (after s (lostWr s m)) a w' β→X (pch p.exn) w')
  (hn:(∀ m x,matchK cx s f caps p.l.args 0 (args++caps.map .s)=some m→mkDs (AK.ins p.l.args) m.dvs=some x→p.ok x=true)→∀ v w' β',Ext (Own s β) w w'→RelB K (after s e.wr) a w' β'→AVRep K.P (after s e.wr) β' w' (Mset K.Mg (after s e.wr) β') e.av v→N v w') :
  CallsX K.P f (us++vs).toArray w fun e w'=>(∃ v,e=.returned v∧N v w')∨∃ ch,e=.panicked ch∧X ch w':=by
 obtain ⟨k,hkp⟩:∃ k,k=p.l:=⟨_,rfl⟩
 obtain ⟨kl,exn,okk⟩:=p
 simp only at hkp
 subst hkp
 simp only at he hp hn
 obtain ⟨m,x,hm,hx,hnc,hncl,hcap,hnd,hdj,hobl,hform⟩:=callLEff_form he
 have hn:=fun hok=>hn (fun m' x' e1 e2=>by
  rw [hm] at e1;cases e1
  rw [hx] at e2;cases e2
  exact hok)
 obtain ⟨hpre,heqs,hmms⟩:=hobl _ hob id
 have F:=matchK_sound (ccaps:=k.caps x) (mi:=k.minv x) hm heqs (fun b hb=>allP_mem hmms _ (List.mem_map.2 ⟨b,hb,rfl⟩))
 have hux:=unDs_mkDs hx
 have hlen:=matchK_len hm
 obtain ⟨ids,hids⟩:∃ ids,ids=m.sol.flatMap (AV.open? s):=⟨_,rfl⟩
 rw [←hids] at hdj hform
 obtain ⟨h1,h2,h3,h4⟩:=h.freeze ids
 obtain ⟨s1,hs1⟩:∃ s1,s1=after s (freeze s ids):=⟨_,rfl⟩
 change RelB K (after s (freeze s ids)) a w β at h1
 change Tr _ w (Mset K.Mg (after s (freeze s ids)) β) w at h2
 change Compat s β (after s (freeze s ids)) β at h3
 change ∀ o∈ids,∀ b,_→_→_→¬ Mset K.Mg (after s (freeze s ids)) β b at h4
 have hs1o:∀ o,s1.obs o=frO s ids o:=fun o=>by rw [hs1];exact freeze_obs s ids o
 rw [←hs1] at h1 h2 h3 h4
 have hM0:∀ b,Mset K.Mg s1 β b→Mset K.Mg s β b:=fun b hb=>h2.2 b (h1.mset_lt hb) hb
 have hlent:∀ p o,(p,some o)∈m.ren→s1.obs o=s.obs o:=by
  intro p o hp
  rw [hs1o,frO_out]
  intro ho
  exact disjN_not hdj (List.mem_filterMap.2 ⟨_,hp,rfl⟩) ho
 have hkn:(m.ren.map (·.1)).Nodup:=by rw [F.rkeys];exact F.nodup
 have el:k.obs f x=cObs f (k.caps x) (k.minv x) k.args 0 m.dvs:=by unfold LCon.obs;rw [hux]
 obtain ⟨l₀,hl₀⟩:∃ l₀,l₀=cObs f (k.caps x) (k.minv x) k.args 0 m.dvs:=⟨_,rfl⟩
 obtain ⟨s₀,hs₀⟩:∃ s₀,s₀=bare (obsOf l₀):=⟨_,rfl⟩
 have es₀:bare (obsOf (k.obs f x))=s₀:=by rw [el,←hl₀,hs₀]
 have F1:=F.vals;have F2:=F.obs;have F3:=F.nodup;have F4:=F.rkeys
 rw [←hl₀] at F1 F2 F3 F4
 have o1:∀ p ob,s₀.obs p=some (some ob)→(p,ob)∈l₀:=fun p ob hp=>by rw [hs₀] at hp;exact obsOf_mem hp
 have o2:∀ p ob,(p,ob)∈l₀→s₀.obs p=some (some ob):=fun p ob hp=>by rw [hs₀];exact obsOf_of F3 hp
 obtain ⟨β₀,hβ₀⟩:∃ β₀,β₀=bOf β m.ren:=⟨_,rfl⟩
 have hβs:∀ p o,(p,some o)∈m.ren→β₀ p=β o:=fun p o hp=>by rw [hβ₀];exact bOf_of hkn hp
 have hβn:∀ p,(p,none)∈m.ren→β₀ p=⟨none,.slice none 0 0,[]⟩:=fun p hp=>by rw [hβ₀];exact bOf_of hkn hp
 have hcal:∀ p o,(p,some o)∈m.ren→∃ ob ob',s.obs o=some (some ob)∧s1.obs o=some (some ob)∧s₀.obs p=some (some ob')∧Twin m.ren f caps (k.caps x) ob ob':=by
  intro p o hp
  have:p∈l₀.map (·.1):=by rw [←F4];exact List.mem_map.2 ⟨_,hp,rfl⟩
  obtain ⟨⟨p',ob'⟩,hp',e1⟩:=List.mem_map.1 this
  have e1:p'=p:=e1
  subst e1
  rcases F2 p' ob' hp' with ⟨o',ob,g1,g2,g3⟩ | ⟨g1,_⟩
  ·have:=ren_unique hkn hp g1
   cases this
   exact ⟨ob,ob',g2,(hlent _ _ hp).trans g2,o2 _ _ hp',g3⟩
  ·have:=ren_unique hkn hp g1
   cases this
 obtain ⟨Mg',hMg'⟩:∃ Mg':Nat→Prop,Mg'=fun b=>Mset K.Mg s1 β b∧¬ ∃ p o,(p,some o)∈m.ren∧(β o).has b:=⟨_,rfl⟩
 have hsplit:∀ p ob',s₀.obs p=some (some ob')→(∃ o ob,(p,some o)∈m.ren∧β₀ p=β o∧s1.obs o=some (some ob)∧Twin m.ren f caps (k.caps x) ob ob')∨(β₀ p=⟨none,.slice none 0 0,[]⟩∧∃ e t,ob'=.row false e t []):=by
  intro p ob' hp
  rcases F2 p ob' (o1 p ob' hp) with ⟨o,ob,g1,g2,g3⟩ | ⟨g1,g2⟩
  ·exact .inl ⟨o,ob,g1,hβs p o g1,(hlent p o g1).trans g2,g3⟩
  ·exact .inr ⟨hβn p g1,g2⟩
 have hOwn0:∀ b,Own s₀ β₀ b→∃ p o ob,(p,some o)∈m.ren∧(β o).has b∧s1.obs o=some (some ob)∧obFz ob=false:=by
  rintro b ⟨p,ob',hp,hf,hb⟩
  rcases hsplit p ob' hp with ⟨o,ob,g1,g2,g3,g4⟩ | ⟨g1,_⟩
  ·exact ⟨p,o,ob,g1,g2▸hb,g3,g4.open.1⟩
  ·rw [g1] at hb;cases one_blk hb
 have hOwn:∀ b,Own s₀ β₀ b→Own s1 β b:=fun b hb=>by
  obtain ⟨p,o,ob,_,g2,g3,g4⟩:=hOwn0 b hb
  exact ⟨o,ob,g3,g4,g2⟩
 have hM1:∀ b,Mset Mg' s₀ β₀ b→Mset K.Mg s1 β b:=by
  rintro b (hb | hb)
  ·rw [hMg'] at hb;exact hb.1
  ·exact .inr (hOwn b hb)
 have hsub1:∀ b,b<w.heap.size→Mset Mg' s₀ β₀ b→Mset K.Mg s1 β b:=fun b _ hb=>hM1 b hb
 have hdrop:(args++caps.map AV.s).drop (k.args.length - k.ncap)=caps.map AV.s:=by
  have:args.length=k.args.length - k.ncap:=by
   rw [List.length_append,List.length_map] at hlen;omega
  rw [←this,List.drop_left]
 have hccaps:(cSvs k.args 0 m.dvs).drop (k.args.length - k.ncap)=k.caps x:=by unfold LCon.caps LCon.svs;rw [hux]
 have hcv:All2 (VTw cx s m.ren m.sol l₀) (caps.map AV.s) (k.caps x):=by
  have:=F1.drop (k.args.length - k.ncap)
  rwa [hdrop,hccaps] at this
 have hbb:∀ {ob ob':Ob},Twin m.ren f caps (k.caps x) ob ob'→(isBv ob=true∨isBx ob=true)→isBv ob'=true∨isBx ob'=true:=by
  intro ob ob' ht hb
  cases ob with
  | bx _ _ _=>rw [ht.2];exact .inr rfl
  | bv v =>
   cases v with
   | s v=>cases v with
    | mp q=>obtain ⟨p,rfl,_⟩:=ht;exact .inl rfl
    | ptr q l=>cases l with
     | nil=>obtain ⟨p,rfl,_⟩:=ht;exact .inl rfl
     | cons _ _=>exact ht.elim
    | _=>exact ht.elim
   | clo _ _=>rw [ht.2.2];exact .inl rfl
   | _=>exact ht.elim
  | row _ _ _ _=>rcases hb with hb | hb<;>cases hb
  | mm _ _ _=>rcases hb with hb | hb<;>cases hb
  | me _ _ _ _=>rcases hb with hb | hb<;>cases hb
  | rr _ _ _ _ _ _=>rcases hb with hb | hb<;>cases hb
  | rq _ _ _ _=>rcases hb with hb | hb<;>cases hb
  | gh _ _=>rcases hb with hb | hb<;>cases hb
  | it _ _ _ _=>rcases hb with hb | hb<;>cases hb
  | bp _ _ _=>rcases hb with hb | hb<;>cases hb
 have hcap0:All2 (CapTw s1 s₀ β β₀) caps (k.caps x):=by
  refine capTws (fun p o hp hb=>?_) hcv hcap
  obtain ⟨ob,ob',g1,g2,g3,g4⟩:=hcal p o hp
  obtain ⟨ob2,hb1,hb2⟩:=hb
  rw [g1] at hb1;cases hb1
  exact ⟨hβs p o hp,⟨ob,g2,hb2⟩,ob',g3,hbb g4 hb2⟩
 have hlt:∀ b,Mg' b→b<w.heap.size:=fun b hb=>by rw [hMg'] at hb;exact h1.mset_lt hb.1
 have hL0:Lent K.P s₀ β₀ w Mg':=by
  refine ⟨?_,?_,?_,?_⟩
  ·intro p ob' hp
   rcases hsplit p ob' hp with ⟨o,ob,g1,g2,g3,g4⟩ | ⟨g1,e,t,rfl⟩
   ·rw [g2]
    refine twin_fwd hsub1 (fun p q hpq=>⟨hβs p q hpq,fun ob2 hq2 hmm=>?_,fun ob2 hq2 hmm=>?_⟩) (fun p q hpq=>?_) (fun p q hpq ob2 hq2=>?_) hcap0 g4 (h1.ob o ob g3)
    ·obtain ⟨ob3,ob4,k1,k2,k3,k4⟩:=hcal p q hpq
     rw [k2] at hq2;cases hq2
     refine ⟨ob4,k3,?_⟩
     cases ob2<;>first | (cases hmm;done) | (exact k4.elim) | skip
     rw [show ob4=_ from k4];rfl
    ·obtain ⟨ob3,ob4,k1,k2,k3,k4⟩:=hcal p q hpq
     rw [k2] at hq2;cases hq2
     exact ⟨ob4,k3,hbb k4 hmm⟩
    ·obtain ⟨ob3,ob4,k1,k2,k3,k4⟩:=hcal p q hpq
     exact ⟨ob3,k2⟩
    ·obtain ⟨ob3,ob4,k1,k2,k3,k4⟩:=hcal p q hpq
     rw [k2] at hq2;cases hq2
     exact ⟨ob4,k4⟩
   ·rw [g1]
    exact ⟨by simp,rfl,[],trivial,by simp,.inl ⟨rfl,rfl⟩⟩
  ·intro p p' ob ob' b hp hp' hb hb'
   rcases hsplit p ob hp with ⟨o,ob1,g1,g2,g3,g4⟩ | ⟨g1,_⟩
   ·rcases hsplit p' ob' hp' with ⟨o',ob1',g1',g2',g3',g4'⟩ | ⟨g1',_⟩
    ·have:=h1.inj o o' _ _ b g3 g3' (g2▸hb) (g2'▸hb')
     subst this
     exact ren_inj hnd g1 g1'
    ·rw [g1'] at hb';cases one_blk hb'
   ·rw [g1] at hb;cases one_blk hb
  ·intro p ob b hp hb hM
   rw [hMg'] at hM
   rcases hsplit p ob hp with ⟨o,ob1,g1,g2,g3,g4⟩ | ⟨g1,_⟩
   ·exact hM.2 ⟨p,o,g1,g2▸hb⟩
   ·rw [g1] at hb;cases one_blk hb
  ·intro p ob hp hr
   rcases hsplit p ob hp with ⟨o,ob1,g1,g2,g3,g4⟩ | ⟨g1,_⟩
   ·rw [g2];exact h1.sb o ob1 g3 g4.rr.1
   ·rw [g1]
 have hvals:All2 (SVRep K.P s₀ β₀ w (Mset Mg' s₀ β₀)) (k.svs x) (us++vs):=by
  have e1:k.svs x=cSvs k.args 0 m.dvs:=by unfold LCon.svs;rw [hux]
  rw [e1]
  refine All2.comp (R:=fun cs x=>VTw cx s m.ren m.sol l₀ x cs) (S:=AVRep K.P s β w (Mset K.Mg s β)) ?_ F1.flip (hus.append (svs_avs' hcs))
  intro cs y u hv hu
  cases hv with
  | d hd hsol =>
   refine VRep.sub (AV.dv_rep hcx h hu hd ⟨hM0,fun q hq b hb hM=>?_⟩) hsub1
   obtain ⟨ob,g1,g2⟩:=open_canFz hq
   exact h4 q (by rw [hids];exact List.mem_flatMap.2 ⟨_,hsol,hq⟩) b (fun ob' ho'=>by rw [g1] at ho';cases ho';exact g2) ⟨ob,g1⟩ hb hM
  | nl hp hr =>
   have hu:u=.slice none 0 0:=hu
   simp only [SVRep,o2 _ _ hp,hβn _ hr]
   exact ⟨rfl,hu⟩
  | os hr hso hp =>
   simp only [AVRep,SVRep,hso] at hu
   simp only [SVRep,o2 _ _ hp,hβs _ _ hr]
   exact ⟨rfl,hu.2⟩
  | ptr hr hso hp hb =>
   refine CapTw.fwd (sA:=s) (sB:=s₀) (βA:=β) (βB:=β₀) (MA:=Mset K.Mg s β) (fun b hb hM=>hM0 b (hM1 b hM)) (.ptr (hβs _ _ hr) ⟨_,hso,?_⟩ ⟨_,o2 _ _ hp,?_⟩) hu
   ·rcases hb with hb | ⟨t,y,e1,_⟩
    ·exact .inl hb.1
    ·exact .inr (by rw [e1];rfl)
   ·rcases hb with hb | ⟨t,y,_,e1⟩
    ·exact .inl hb.2
    ·exact .inr (by rw [e1];rfl)
 have hcall:=hX w Mg' β₀ (us++vs) x hlt (by rw [es₀];exact hL0) (by rw [es₀];exact hvals) hpre
 simp only [LPost] at hcall
 rw [es₀] at hcall
 refine hcall.mono ?_
 have hOwnS:∀ b,Own s₀ β₀ b→Own s β b:=by
  intro b hb
  obtain ⟨p,o,ob,g1,g2,g3,g4⟩:=hOwn0 b hb
  exact ⟨o,ob,by rw [←hlent p o g1];exact g3,g4,g2⟩
 rintro e' w' (⟨hok,v,β',rfl,hext,hL,hsame,hrid,hav⟩ | ⟨hok,rfl,hext⟩)
 rotate_left
 ·refine .inr ⟨_,rfl,hp m x w' hm hx hok (hext.mono fun b _ hb=>hOwnS b hb) (fun hJ=>(h1.gone (hext.mono fun b _ hb=>hOwn b hb) hJ)) ?_⟩
  unfold lostWr
  rw [after_append,←hids,←hs1]
  refine h1.lose (fun o ho=>?_) (hext.mono fun b _ hb=>?_)
  ·obtain ⟨⟨p,q⟩,hp',e1⟩:=List.mem_filterMap.1 ho
   have e1:q=some o:=e1
   subst e1
   obtain ⟨ob,ob',g1,g2,g3,g4⟩:=hcal p o hp'
   rw [g2]
   cases ob<;>first | rfl | exact g4.elim
  ·obtain ⟨p,o,ob,g1,g2,g3,g4⟩:=hOwn0 b hb
   exact ⟨o,List.mem_filterMap.2 ⟨_,g1,rfl⟩,ob,g3,g4,g2⟩
 have hn:=fun v w' β'=>hn hok v w' β'
 refine .inl ⟨v,rfl,?_⟩
 obtain ⟨out,hout⟩:∃ out,out=unDs (k.res++AK.boxes k.args) (k.val x):=⟨_,rfl⟩
 rw [←hout] at hform hL hsame hav
 have hbt:(out.drop k.res.length).map (·.t)=AK.boxes k.args:=by
  rw [List.map_drop,hout,unDs_types,List.drop_left]
 obtain ⟨g1,g2,g3,g4⟩:=F.fin (out.drop k.res.length) hbt
 obtain ⟨fl,hfl⟩:∃ fl,fl=cFin f (k.caps x) (k.minv x) k.args 0 (out.drop k.res.length):=⟨_,rfl⟩
 rw [←hfl] at g1 g2 g4
 rw [←hl₀] at g2
 have hfn:(fl.map (·.1)).Nodup:=g2.nodup F3
 have hpr:∀ p ob,(p,ob)∈fl→p≠rid:=fun p ob hp=>by
  have:p∈l₀.map (·.1):=g2.subset (List.mem_map.2 ⟨_,hp,rfl⟩)
  obtain ⟨⟨p',ob'⟩,hp',e1⟩:=List.mem_map.1 this
  have e1:p'=p:=e1
  subst e1
  obtain ⟨j,_,hj⟩:=F.keys p' ob' (by rw [←hl₀];exact hp')
  exact pid_rid hj
 obtain ⟨sf,hsf⟩:∃ sf,sf=bare (k.fin f x out):=⟨_,rfl⟩
 rw [←hsf] at hL hav
 have hsfo:∀ o,sf.obs o=k.fin f x out o:=fun o=>by rw [hsf];rfl
 have hfin:∀ p ob,(p,ob)∈fl→sf.obs p=some (some ob):=by
  intro p ob hp
  rw [hsfo]
  have hbase:obsOf fl p=some (some ob):=obsOf_of hfn hp
  unfold LCon.fin
  rw [←hfl]
  rw [rowPut_other (hpr p ob hp)];exact hbase
 have hfβ:∀ p o ob,(p,ob)∈fl→(p,some o)∈m.ren→β' p=β o:=by
  intro p o ob hp hr
  rw [hsame p ob (hpr p ob hp) (by rw [←hsfo];exact hfin p ob hp),hβs p o hr]
 have fin:∀ (s2:ASt) (β2:Nat→Loc) (D:Nat→Prop),s2.env=s1.env→(∀ o∈m.rows,¬ D o→s2.obs o=some none)→(∀ o v,(o,v)∈boxWr m.bxs (out.drop k.res.length)→¬ D o→s2.obs o=some v)→(∀ o,o∉m.rows→o∉m.bxs→¬ D o→s2.obs o=s1.obs o) →
   (∀ o,D o→s1.obs o=none∧o=d∧β2 o=β' rid∧∃ ob,s2.obs o=some (some ob)∧sf.obs rid=some (some ob)∧isRow ob=true∧obFz ob=false)→(∀ o,¬ D o→β2 o=β o)→(∀ o,D o→k.row.isSome=true) →
   RelB K s2 a w' β2∧∀ b,b<w'.heap.size→Mset K.Mg s2 β2 b→Mset Mg' sf β' b:=by
  intro s2 β2 D henv hA hB hC hD hβ2 hDr
  have notD:∀ p o,(p,some o)∈m.ren→¬ D o:=fun p o hp hd=>by
   obtain ⟨ob,_,_,k2,_⟩:=hcal p o hp
   rw [(hD o hd).1] at k2;cases k2
  have lent_cls:∀ p o,(p,some o)∈m.ren→∀ ob,s2.obs o=some (some ob)→∃ ob',(p,ob')∈fl∧Twin m.ren f caps (k.caps x) ob ob':=by
   intro p o hp ob ho
   rcases g4 p o hp with hr | ⟨t,y,y',k1,k2,k3⟩ | ⟨ob1,ob2,k1,k2,k3,k4⟩
   ·rw [hA o hr (notD p o hp)] at ho;cases ho
   ·rw [hB o _ k2 (notD p o hp)] at ho;cases ho
    exact ⟨_,k3,rfl,rfl⟩
   ·have hnr:o∉m.rows:=fun hr=>by
     obtain ⟨_,e,t,y,hr⟩:=F.rows o hr
     rw [k1] at hr;cases hr
     rcases k2 with k2 | k2<;>cases k2
    have hnb:o∉m.bxs:=fun hr=>by
     obtain ⟨_,t,y,hr⟩:=F.bxs o hr
     rw [k1] at hr;cases hr
     rcases k2 with k2 | k2<;>cases k2
    rw [hC o hnr hnb (notD p o hp),hlent p o hp,k1] at ho
    cases ho
    exact ⟨ob2,k3,k4⟩
  have cls:∀ o ob,s2.obs o=some (some ob)→D o∨(∃ p ob' obc,(p,some o)∈m.ren∧(p,ob')∈fl∧Twin m.ren f caps (k.caps x) ob ob'∧¬ D o∧s1.obs o=some (some obc)∧obFz obc=false)∨((∀ p,(p,some o)∉m.ren)∧¬ D o∧s1.obs o=some (some ob)):=by
   intro o ob ho
   by_cases hd:D o
   ·exact .inl hd
   by_cases hp:∃ p,(p,some o)∈m.ren
   ·obtain ⟨p,hp⟩:=hp
    obtain ⟨ob',k1,k2⟩:=lent_cls p o hp ob ho
    obtain ⟨obc,_,_,k3,_,k4⟩:=hcal p o hp
    exact .inr (.inl ⟨p,ob',obc,hp,k1,k2,hd,k3,k4.open.1⟩)
   ·have hp:∀ p,(p,some o)∉m.ren:=fun p hp'=>hp ⟨p,hp'⟩
    refine .inr (.inr ⟨hp,hd,?_⟩)
    rw [←hC o (fun hr=>by obtain ⟨⟨p,h⟩,_⟩:=F.rows o hr;exact hp p h) (fun hr=>by obtain ⟨⟨p,h⟩,_⟩:=F.bxs o hr;exact hp p h) hd]
    exact ho
  have hsub2:∀ b,b<w'.heap.size→Mset K.Mg s2 β2 b→Mset Mg' sf β' b:=by
   rintro b _ (hb | ⟨o,ob,ho,hf,hb⟩)
   ·refine .inl ?_
    rw [hMg']
    refine ⟨.inl hb,?_⟩
    rintro ⟨p,o,hp,hbo⟩
    obtain ⟨obc,_,_,k3,_⟩:=hcal p o hp
    exact h1.dis o obc b k3 hbo hb
   ·rcases cls o ob ho with hd | ⟨p,ob',obc,k1,k2,k3,k4,k5,k6⟩ | ⟨k1,k2,k3⟩
    ·obtain ⟨_,_,e1,ob2,e2,e3,e4,e5⟩:=hD o hd
     exact .inr ⟨rid,ob2,e3,e5,by rw [←e1];exact hb⟩
    ·refine .inr ⟨p,ob',hfin p ob' k2,k3.open.2,?_⟩
     rw [hfβ p o ob' k2 k1,←hβ2 o k4];exact hb
    ·refine .inl ?_
     rw [hβ2 o k2] at hb
     rw [hMg']
     refine ⟨.inr ⟨o,ob,k3,hf,hb⟩,?_⟩
     rintro ⟨p,o',hp,hbo⟩
     obtain ⟨obc,_,_,k4,_⟩:=hcal p o' hp
     have:=h1.inj o o' _ _ b k3 k4 hb hbo
     subst this
     exact k1 p hp
  have hcap2:All2 (CapTw s2 sf β2 β') caps (k.caps x):=by
   refine capTws (fun p o hp hb=>?_) hcv hcap
   obtain ⟨ob,hb1,hb2⟩:=hb
   rcases g4 p o hp with hr | ⟨t,y,y',k1,k2,k3⟩ | ⟨ob1,ob2,k1,k2,k3,k4⟩
   ·obtain ⟨_,e,t,y,hr⟩:=F.rows o hr
    rw [hb1] at hr;cases hr
    rcases hb2 with hb2 | hb2<;>cases hb2
   ·exact ⟨(hfβ p o _ k3 hp).trans (hβ2 o (notD p o hp)).symm,⟨_,hB o _ k2 (notD p o hp),.inr rfl⟩,_,hfin _ _ k3,.inr rfl⟩
   ·rw [k1] at hb1;cases hb1
    have hnr:o∉m.rows:=fun hr=>by
     obtain ⟨_,e,t,y,hr⟩:=F.rows o hr
     rw [k1] at hr;cases hr
     rcases k2 with k2 | k2<;>cases k2
    have hnb:o∉m.bxs:=fun hr=>by
     obtain ⟨_,t,y,hr⟩:=F.bxs o hr
     rw [k1] at hr;cases hr
     rcases k2 with k2 | k2<;>cases k2
    exact ⟨(hfβ p o _ k3 hp).trans (hβ2 o (notD p o hp)).symm,⟨_,by rw [hC o hnr hnb (notD p o hp),hlent p o hp,k1],hb2⟩,ob2,hfin _ _ k3,hbb k4 hb2⟩
  have hD1:∀ o r,s1.obs o=some r→¬ D o:=fun o r ho hd=>by rw [(hD o hd).1] at ho;cases ho
  have hcc:Compat s1 β s2 β2:=by
   refine ⟨fun o ho=>?_,fun o ob ho=>?_⟩
   ·by_cases hr:o∈m.rows
    ·exact hA o hr (hD1 o _ ho)
    ·have hnb:o∉m.bxs:=fun hb=>by
      obtain ⟨⟨p,hp⟩,t,y,hb⟩:=F.bxs o hb
      rw [hlent p o hp,hb] at ho;cases ho
     rw [hC o hr hnb (hD1 o _ ho)];exact ho
   ·by_cases hr:o∈m.rows
    ·exact .inl (hA o hr (hD1 o _ ho))
    ·by_cases hb:o∈m.bxs
     ·obtain ⟨⟨p,hp⟩,t,y,hb⟩:=F.bxs o hb
      rcases g4 p o hp with hr' | ⟨t',y1,y',k1,k2,k3⟩ | ⟨ob1,ob2,k1,k2,k3,k4⟩
      ·exact absurd hr' hr
      ·right
       rw [hlent p o hp,k1] at ho;cases ho
       exact ⟨_,hB o _ k2 (hD1 o (some (.bx false t' y1)) (by rw [hlent p o hp,k1])),hβ2 o (notD p o hp),fun _ h=>h,fun _=>rfl,rfl,rfl⟩
      ·rw [hb] at k1;cases k1;rcases k2 with k2 | k2<;>cases k2
     ·right
      exact ⟨ob,by rw [hC o hr hb (hD1 o _ ho)];exact ho,hβ2 o (hD1 o _ ho),.refl _⟩
  refine ⟨(h1.step hcc (hext.mono fun b _ hb=>hOwn b hb) ?_ ?_ ?_ ?_ henv ?_).1,hsub2⟩
  ·rintro b hb ⟨o,ob,ho,hf,hbo⟩
   rcases cls o ob ho with hd | ⟨p,ob',obc,k1,k2,k3,k4,k5,k6⟩ | ⟨k1,k2,k3⟩
   ·obtain ⟨_,_,e1,_⟩:=hD o hd
    rcases hrid b (e1▸hbo) (hDr o hd) with q | q
    ·exact hOwn b q
    ·omega
   ·exact ⟨o,obc,k5,k6,hβ2 o k4▸hbo⟩
   ·exact ⟨o,ob,k3,hf,hβ2 o k2▸hbo⟩
  ·intro o ob ho
   rcases cls o ob ho with hd | ⟨p,ob',obc,k1,k2,k3,k4,k5,k6⟩ | ⟨k1,k2,k3⟩
   ·obtain ⟨_,_,e1,ob2,e2,e3,e4,e5⟩:=hD o hd
    rw [ho] at e2;cases e2
    refine .inr ⟨fun hr0=>by rw [e1];exact hL.sb rid ob e3 hr0,fun _=>?_⟩
    rw [e1]
    have hr:=hL.ob rid ob e3
    cases ob with
    | row _ _ _ _ =>
     obtain ⟨q1,q2,vss,q3,q4⟩:=hr
     exact ⟨q1,q2,vss,q3.mono fun _ _ h=>h.tr ⟨.refl _ _,hsub2⟩,q4⟩
    | rq _ _ _ _ =>
     obtain ⟨q1,q2,k,vss,q3,q4⟩:=hr
     exact ⟨q1,q2,k,vss,q3.mono fun _ _ h=>h.tr ⟨.refl _ _,hsub2⟩,q4⟩
    | rr _ _ _ _ _ _=>exact hr
    | _=>cases e4
   ·refine .inr ⟨fun _=>by rw [hβ2 o k4];obtain ⟨obc',_,_,q3,_,q4⟩:=hcal p o k1;exact h1.sb o obc' q3 q4.rr.1,fun _=>?_⟩
    rw [hβ2 o k4,←hfβ p o ob' k2 k1]
    refine twin_bwd hsub2 hcap2 k3 (fun p' q hq hpq=>?_) (fun p' q hq hpq=>?_) (hL.ob p ob' (hfin p ob' k2))
    rotate_left
    ·subst hq
     have hs1o':s1.obs o=some (some (.bv (.s (.ptr q [])))):=by
      rcases g4 p o k1 with hr | ⟨t,y,y',e1,e2,e3⟩ | ⟨ob1,ob2,e1,e2,e3,e4⟩
      ·rw [hA o hr k4] at ho;cases ho
      ·rw [hB o _ e2 k4] at ho;cases ho
      ·have hnr:o∉m.rows:=fun hr=>by rw [hA o hr k4] at ho;cases ho
       have hnb:o∉m.bxs:=fun hr=>by
        obtain ⟨_,t,y,hr⟩:=F.bxs o hr
        rw [e1] at hr;cases hr
        rcases e2 with e2 | e2<;>cases e2
       rw [←hC o hnr hnb k4];exact ho
     obtain ⟨b,u,e,_,_,hmp⟩:=h1.ob o _ hs1o'
     obtain ⟨obq,obq',k7,k8,_,k9⟩:=hcal p' q hpq
     simp only [AVRep,SVRep,k8] at hmp
     obtain ⟨_,_,off,_,hoff,_⟩:=hmp
     have hqb:=obPos_bb ⟨_,k9⟩ hoff
     rcases g4 p' q hpq with hr | ⟨t,y,y',e1,e2,e3⟩ | ⟨ob1,ob2,e1,e2,e3,e4⟩
     ·obtain ⟨_,e,t,y,hr⟩:=F.rows q hr
      rw [k7] at hr;cases hr
      rcases hqb with hqb | hqb<;>cases hqb
     ·exact ⟨(hfβ p' q _ e3 hpq).trans (hβ2 q (notD p' q hpq)).symm,_,_,hfin _ _ e3,hB q _ e2 (notD p' q hpq),.inr rfl,.inr rfl⟩
     ·rw [k7] at e1;cases e1
      have hnr:q∉m.rows:=fun hr=>by
       obtain ⟨_,e,t,y,hr⟩:=F.rows q hr
       rw [k7] at hr;cases hr
       rcases hqb with hqb | hqb<;>cases hqb
      have hnb:q∉m.bxs:=fun hr=>by
       obtain ⟨_,t,y,hr⟩:=F.bxs q hr
       rw [k7] at hr;cases hr
       rcases e2 with e2 | e2<;>cases e2
      exact ⟨(hfβ p' q _ e3 hpq).trans (hβ2 q (notD p' q hpq)).symm,ob2,obq,hfin _ _ e3,by rw [hC q hnr hnb (notD p' q hpq)];exact k8,hbb e4 hqb,hqb⟩
    subst hq
    have hs1o':s1.obs o=some (some (.bv (.s (.mp q)))):=by
     rcases g4 p o k1 with hr | ⟨t,y,y',e1,e2,e3⟩ | ⟨ob1,ob2,e1,e2,e3,e4⟩
     ·rw [hA o hr k4] at ho;cases ho
     ·rw [hB o _ e2 k4] at ho;cases ho
     ·have hnr:o∉m.rows:=fun hr=>by rw [hA o hr k4] at ho;cases ho
      have hnb:o∉m.bxs:=fun hr=>by
       obtain ⟨_,t,y,hr⟩:=F.bxs o hr
       rw [e1] at hr;cases hr
       rcases e2 with e2 | e2<;>cases e2
      rw [←hC o hnr hnb k4];exact ho
    obtain ⟨b,u,e,_,_,hmp⟩:=h1.ob o _ hs1o'
    obtain ⟨obq,_,k7,k8,_⟩:=hcal p' q hpq
    simp only [AVRep,SVRep,k8] at hmp
    have hmm:=hmp.1
    rcases g4 p' q hpq with hr | ⟨t,y,y',e1,e2,e3⟩ | ⟨ob1,ob2,e1,e2,e3,e4⟩
    ·obtain ⟨_,e,t,y,hr⟩:=F.rows q hr
     rw [k7] at hr;cases hr;cases hmm
    ·rw [k7] at e1;cases e1;cases hmm
    ·rw [k7] at e1;cases e1
     have hnr:q∉m.rows:=fun hr=>by
      obtain ⟨_,e,t,y,hr⟩:=F.rows q hr
      rw [k7] at hr;cases hr;cases hmm
     have hnb:q∉m.bxs:=fun hr=>by
      obtain ⟨_,t,y,hr⟩:=F.bxs q hr
      rw [k7] at hr;cases hr;cases hmm
     exact ⟨(hfβ p' q _ e3 hpq).trans (hβ2 q (notD p' q hpq)).symm,ob2,obq,hfin _ _ e3,by rw [hC q hnr hnb (notD p' q hpq)];exact k8,hmm⟩
   ·left
    refine ⟨k3,hβ2 o k2,fun b hb=>hext.2 b (h1.blk_lt k3 hb) fun ho'=>?_⟩
    obtain ⟨p,o',obc,q1,q2,q3,_⟩:=hOwn0 b ho'
    have:=h1.inj o o' _ _ b k3 q3 hb q2
    subst this
    exact k1 p q1
  ·intro x1 x2 ob1 ob2 b hx1 hx2 hb1 hb2
   have live:∀ o ob,s2.obs o=some (some ob)→¬ D o→∃ obc,s1.obs o=some (some obc):=by
    intro o ob ho hd
    rcases cls o ob ho with hd' | ⟨p,ob',obc,k1,k2,k3,k4,k5,k6⟩ | ⟨k1,k2,k3⟩
    ·exact absurd hd' hd
    ·exact ⟨obc,k5⟩
    ·exact ⟨ob,k3⟩
   have mixed:∀ o o' ob ob',s2.obs o=some (some ob)→s2.obs o'=some (some ob')→(β2 o).has b→(β2 o').has b→D o→¬ D o'→False:=by
    intro o o' ob ob' ho ho' hb hb' hd hd'
    obtain ⟨_,_,e1,ob3,e2,e3,_⟩:=hD o hd
    rcases cls o' ob' ho' with hd'' | ⟨p,ob4,obc,k1,k2,k3,k4,k5,k6⟩ | ⟨k1,k2,k3⟩
    ·exact hd' hd''
    ·refine hpr p ob4 k2 (hL.inj p rid _ _ b (hfin p ob4 k2) e3 ?_ (e1▸hb))
     rw [hfβ p o' ob4 k2 k1,←hβ2 o' k4];exact hb'
    ·rw [hβ2 o' k2] at hb'
     rcases hrid b (e1▸hb) (hDr o hd) with q | q
     ·obtain ⟨p,o3,obc,q1,q2,q3,_⟩:=hOwn0 b q
      have:=h1.inj o' o3 _ _ b k3 q3 hb' q2
      subst this
      exact k1 p q1
     ·have:=h1.blk_lt k3 hb';omega
   by_cases d1:D x1
   ·by_cases d2:D x2
    ·rw [(hD x1 d1).2.1,(hD x2 d2).2.1]
    ·exact (mixed x1 x2 ob1 ob2 hx1 hx2 hb1 hb2 d1 d2).elim
   ·by_cases d2:D x2
    ·exact (mixed x2 x1 ob2 ob1 hx2 hx1 hb2 hb1 d2 d1).elim
    ·obtain ⟨c1,l1⟩:=live x1 ob1 hx1 d1
     obtain ⟨c2,l2⟩:=live x2 ob2 hx2 d2
     exact h1.inj x1 x2 _ _ b l1 l2 (hβ2 x1 d1▸hb1) (hβ2 x2 d2▸hb2)
  ·intro o ob b ho hb
   rcases cls o ob ho with hd | ⟨p,ob',obc,k1,k2,k3,k4,k5,k6⟩ | ⟨k1,k2,k3⟩
   ·obtain ⟨_,_,e1,_⟩:=hD o hd
    rcases hrid b (e1▸hb) (hDr o hd) with q | q
    ·obtain ⟨p,o3,obc,q1,q2,q3,q4⟩:=hOwn0 b q
     exact .inr ⟨o3,obc,q3,fun _=>q4,q2⟩
    ·exact .inl q
   ·exact .inr ⟨o,obc,k5,fun _=>k6,hβ2 o k4▸hb⟩
   ·exact .inr ⟨o,ob,k3,id,hβ2 o k2▸hb⟩
  ·by_cases hd:D K.gid
   ·obtain ⟨e0,_,_,ob,e1,_,e2,_⟩:=hD _ hd
    rw [e0,e1]
    cases ob<;>first | rfl | cases e2
   ·by_cases hr:K.gid∈m.rows
    ·obtain ⟨⟨p,hp⟩,e,t,y,hb⟩:=F.rows _ hr
     rw [hA _ hr hd,hlent p _ hp,hb];rfl
    ·by_cases hb:K.gid∈m.bxs
     ·obtain ⟨⟨p,hp⟩,t,y,hb⟩:=F.bxs _ hb
      rcases g4 p _ hp with hr' | ⟨t',y1,y',k1,k2,k3⟩ | ⟨ob1,ob2,k1,k2,k3,k4⟩
      ·exact absurd hr' hr
      ·rw [hB _ _ k2 hd,hlent p _ hp,k1];rfl
      ·rw [hb] at k1;cases k1;rcases k2 with k2 | k2<;>cases k2
     ·rw [hC _ hr hb hd]
 have hbn:((boxWr m.bxs (out.drop k.res.length)).map (·.1)).Nodup:=by rw [g3];exact F.bnd hnd
 have hrk:(m.rows.map fun o=>((o,none):Nat × Option Ob)).map (·.1)=m.rows:=by
  simp [List.map_map,Function.comp_def]
 have hW:∀ wr₀,wr₀=m.rows.map (fun o=>(o,none))++(boxWr m.bxs (out.drop k.res.length)++freeze s ids)→(after s wr₀).env=s1.env∧(∀ o∈m.rows,(after s wr₀).obs o=some none)∧(∀ o v,(o,v)∈boxWr m.bxs (out.drop k.res.length)→(after s wr₀).obs o=some v)∧∀ o,o∉m.rows→o∉m.bxs→(after s wr₀).obs o=s1.obs o:=by
  rintro wr₀ rfl
  rw [after_append,after_append,←hs1]
  refine ⟨rfl,fun o ho=>after_none _ _ ho,fun o v ho=>?_,fun o h1 h2=>?_⟩
  ·rw [after_out _ _ (by
    rw [hrk]
    intro hr
    obtain ⟨⟨p,hp⟩,e,t,y,hb⟩:=F.rows _ hr
    obtain ⟨_,t',y',hb'⟩:=F.bxs o (by rw [←g3];exact List.mem_map.2 ⟨_,ho,rfl⟩)
    rw [hb] at hb';cases hb')]
   exact after_in _ _ hbn ho
  ·rw [after_out _ _ (by rw [hrk];exact h1),after_out _ _ (by rw [g3];exact h2)]
 rcases hform with ⟨hrow,hav',hwr⟩ | ⟨e₀,t,l,rr,hrow,hout',hobs,hr1,hav',hwr⟩
 ·obtain ⟨w1,w2,w3,w4⟩:=hW _ hwr
  obtain ⟨r1,r2⟩:=fin (after s e.wr) β (fun _=>False) w1 (fun o ho _=>w2 o ho) (fun o v ho _=>w3 o v ho) (fun o h1 h2 _=>w4 o h1 h2) (fun _ h=>h.elim) (fun _ _=>rfl) (fun _ h=>h.elim)
  refine hn v w' β (hext.mono fun b _ hb=>hOwnS b hb) r1 ?_
  rw [hav']
  have:k.rav out=avOf (out.take k.res.length):=by unfold LCon.rav;rw [hrow]
  rw [this] at hav
  exact data_rep r2 hav
 ·have hfr:k.fin f x out rid=some (some (.row false e₀ t l)):=by
   unfold LCon.fin
   rw [hrow,hout']
   exact put_same _ _ _
  have hsd:s1.obs d=none:=by
   rw [hs1o];unfold frO;rw [hobs]
  obtain ⟨w1,w2,w3,w4⟩:=hW _ rfl
  have ew:after s e.wr={ after s (m.rows.map (fun o=>(o,none))++(boxWr m.bxs (out.drop k.res.length)++freeze s ids)) with obs:=put (after s (m.rows.map (fun o=>(o,none))++(boxWr m.bxs (out.drop k.res.length)++freeze s ids))).obs d (some (some (.row false e₀ t l))) }:=by rw [hwr];rfl
  rw [ew] at hn
  obtain ⟨r1,r2⟩:=fin { after s (m.rows.map (fun o=>(o,none))++(boxWr m.bxs (out.drop k.res.length)++freeze s ids)) with obs:=put (after s (m.rows.map (fun o=>(o,none))++(boxWr m.bxs (out.drop k.res.length)++freeze s ids))).obs d (some (some (.row false e₀ t l))) } (Sx.put β d (β' rid)) (fun o=>o=d) w1
   (fun o ho hd=>by show put _ d _ o=_;rw [put_other _ _ hd];exact w2 o ho) (fun o v ho hd=>by show put _ d _ o=_;rw [put_other _ _ hd];exact w3 o v ho) (fun o h1 h2 hd=>by show put _ d _ o=_;rw [put_other _ _ hd];exact w4 o h1 h2)
   (fun o hd=>by subst hd;exact ⟨hsd,rfl,put_same _ _ _,_,put_same _ _ _,by rw [hsfo];exact hfr,rfl,rfl⟩) (fun o hd=>put_other _ _ hd) (fun _ _=>by rw [hrow];rfl)
  refine hn v w' _ (hext.mono fun b _ hb=>hOwnS b hb) r1 ?_
  rw [hav']
  have:k.rav out=.s (.os rid):=by unfold LCon.rav;rw [hrow]
  rw [this] at hav
  simp only [AVRep,SVRep] at hav ⊢
  rw [hsfo,hfr] at hav
  show match put _ d _ d with | none=>False | some none=>True | some (some ob)=>isRow ob=true∧v=_
  rw [put_same,put_same]
  exact ⟨rfl,hav.2⟩
theorem upon_callLG (hcx:CxOk K.P cx) (h:RelB K s a w β) (hop:∀ c,o.op≠.defer c) {f:Nat} {p:PCon} (hX:Enters K.P f∧HoldsX K.P f p) {args:List AV} {caps:List SV} {us vs:List Value}
  (hus:All2 (AVRep K.P s β w (Mset K.Mg s β)) args us) (hcs:All2 (SVRep K.P s β w (Mset K.Mg s β)) caps vs) (he:callLEff cx s d f p.l args caps=some e) (hob:∀ r,e.obl=some r→r)
  (hrun:(execOp a.eval o).run K.P w=(callFunc f (us++vs).toArray).run K.P w)
  (hp:∀ m x w',matchK cx s f caps p.l.args 0 (args++caps.map .s)=some m→mkDs (AK.ins p.l.args) m.dvs=some x→p.ok x=false→((∀ g G M w,K.J g G M w)→RelB K goneAll a w' β)→Q (.panic (pch p.exn)) a w')
  (hn:(∀ m x,matchK cx s f caps p.l.args 0 (args++caps.map .s)=some m→mkDs (AK.ins p.l.args) m.dvs=some x→p.ok x=true)→∀ v w' β',RelB K (after s e.wr) a w' β'→AVRep K.P (after s e.wr) β' w' (Mset K.Mg (after s e.wr) β') e.av v→next (a.put o.dst v) w'):o.wpIn (FF K.P r) n K.P a w next Q:=by
 refine upon_enter2 hop (hrun.trans (hX.1 _ _)) (callLG (d:=d) (N:=fun v w'=>next (a.put o.dst v) w') (X:=fun ch w'=>Q (.panic ch) a w') hcx h hX.2 hus hcs he hob (fun m x w' e1 e2 e3 _ e4 _=>hp m x w' e1 e2 e3 e4) fun h1 v w' β' _ h2 h3=>hn h1 v w' β' h2 h3) fun e w' he=>he
theorem newOb_cases {box:Bool} {el el2:Nat} {v:Dv} {ob:Ob} (h:newOb box el el2 v=some ob):(box=false∧∃ t l,v=⟨.sl t,l⟩∧t.flat=true∧ob=.row false el t l)∨(box=true∧v.t.flat=true∧ob=.bx false v.t v.x)∨(box=false∧∃ t l,v=⟨.sl (.sl t),l⟩∧t.flat=true∧ob=.rr false 0 el el2 t l):=by
 obtain ⟨t,x⟩:=v
 cases box with
 | false =>
  cases t<;>try (simp only [newOb,Bool.false_and,cond_false] at h;cases h)
  rename_i t
  simp only [newOb,cond_false] at h
  cases t
  case sl t =>
   simp only [newRw] at h
   cases hf:t.flat with
   | true=>rw [hf,cond_true] at h;exact .inr (.inr ⟨rfl,t,x,rfl,hf,(Option.some.inj h).symm⟩)
   | false=>rw [hf,cond_false] at h;cases h
  all_goals
   left
   simp only [newRw] at h
   generalize hf:Ty.flat _=fl at h
   cases fl with
   | true=>rw [cond_true] at h;exact ⟨rfl,_,x,rfl,hf,(Option.some.inj h).symm⟩
   | false=>rw [cond_false] at h;cases h
 | true =>
  right;left
  cases t<;>try (cases h;done)
  all_goals
   simp only [newOb,Bool.true_and] at h
   generalize hf:Ty.flat _=fl at h
   cases fl with
   | true=>rw [cond_true] at h;exact ⟨rfl,by first | rfl | exact hf,(Option.some.inj h).symm⟩
   | false=>rw [cond_false] at h;cases h
theorem nrep_svs {P:Program} {w:World} {M M2:Nat→Prop} {box:Bool} {el el2:Nat} {L:Loc} {s2:ASt} {β2:Nat→Loc} {d:Nat} {v:Dv} {ob:Ob} (hv:newOb box el el2 v=some ob) (hd:s2.obs d=some (some ob)) (hβ:β2 d=L) :
  ∀ {pos:Nat} {vs:List Dv} {us:List Value},NRep P w M box el el2 L pos vs us→((flatBut pos (vs.map (·.t))=true)∨(∀ b,b<w.heap.size→M2 b→M b))→All2 (SVRep P s2 β2 w M2) (svAt box d pos vs) us
 | 0,v'::vs,u::us,h,hf=>by
  obtain ⟨⟨h1,_⟩,h2⟩:=h
  refine ⟨?_,?_⟩
  ·rcases newOb_cases hv with ⟨rfl,t,l,rfl,_,rfl⟩ | ⟨rfl,_,rfl⟩ | ⟨rfl,t,l,rfl,_,rfl⟩
   rotate_left 2
   ·simp only [newSV,cond_false,SVRep,hd]
    exact ⟨rfl,by rw [hβ];exact h1⟩
   ·simp only [newSV,cond_false,SVRep,hd]
    exact ⟨rfl,by rw [hβ];exact h1⟩
   ·obtain ⟨b,hb,rfl⟩:=h1
    simp only [newSV,cond_true,SVRep,hd]
    exact ⟨inP_nil v.t,b,0,by rw [hβ];exact hb,by show (offP v.t []).map _=_;rw [offP_nil];rfl,rfl⟩
  ·have key:∀ {vs:List Dv} {us:List Value},All2 (fun (u:Value) (d:Dv)=>VRep P d.t w M u d.x) us vs→((vs.map (·.t)).all Ty.flat=true∨(∀ b,b<w.heap.size→M2 b→M b))→All2 (SVRep P s2 β2 w M2) (vs.map fun v=>.d v.t v.x) us:=by
    intro vs
    induction vs with
    | nil=>intro us h _;cases us with
     | nil=>trivial
     | cons _ _=>exact h.elim
    | cons v vs ih =>
     intro us h hf
     cases us with
     | nil=>exact h.elim
     | cons u us =>
      refine ⟨?_,ih h.2 (hf.imp (fun hh=>?_) id)⟩
      ·rcases hf with hf | hf
       ·simp only [List.map_cons,List.all_cons,Bool.and_eq_true] at hf
        exact VRep.flat hf.1 h.1
       ·exact VRep.sub h.1 hf
      ·simp only [List.map_cons,List.all_cons,Bool.and_eq_true] at hh
       exact hh.2
   exact key h2 hf
 | p+1,v'::vs,u::us,h,hf=>by
  obtain ⟨h1,h2⟩:=h
  refine ⟨?_,nrep_svs hv hd hβ h2 (hf.imp (fun hh=>?_) id)⟩
  ·rcases hf with hf | hf
   ·simp only [List.map_cons,flatBut,Bool.and_eq_true] at hf
    exact VRep.flat hf.1 h1
   ·exact VRep.sub h1 hf
  ·simp only [List.map_cons,flatBut,Bool.and_eq_true] at hh
   exact hh.2
 | 0,[],_,h,_=>h.elim
 | 0,_::_,[],h,_=>h.elim
 | _+1,[],_,h,_=>h.elim
 | _+1,_::_,[],h,_=>h.elim
theorem avAt_rep {P:Program} {s:ASt} {β:Nat→Loc} {w:World} {M:Nat→Prop} {box:Bool} {d p:Nat} {l:List Dv} {us:List Value} (h:All2 (SVRep P s β w M) (svAt box d p l) us):AVRep P s β w M (avAt box d p l) (tupVal us):=by
 unfold avAt
 generalize svAt box d p l=vs at h
 match vs,us,h with
 | [],[],_=>exact ⟨[],rfl,trivial⟩
 | [_],[_],h=>exact h.1
 | _::_::_,_::_::_,h=>exact ⟨_,rfl,h⟩
 | [],_::_,h=>exact h.elim
 | _::_,[],h=>exact h.elim
 | [_],_::_::_,h=>exact h.2.elim
 | _::_::_,[_],h=>exact h.2.elim
theorem nrep_ob {P:Program} {w:World} {M:Nat→Prop} {box:Bool} {el el2:Nat} {L:Loc} {v:Dv} {ob:Ob} (hv:newOb box el el2 v=some ob):∀ {pos:Nat} {vs:List Dv} {us:List Value},NRep P w M box el el2 L pos vs us→vs[pos]?=some v→(isRr ob=false→L.sub=[])∧ObRep P (bare fun _=>none) (fun _=>L) w M L ob
 | 0,v'::vs,u::us,h,hg=>by
  obtain ⟨⟨_,ob',h1,h2⟩,_⟩:=h
  simp only [List.getElem?_cons_zero,Option.some.injEq] at hg
  rw [hg,hv] at h1
  cases h1
  exact h2
 | p+1,v'::vs,u::us,h,hg=>nrep_ob hv h.2 (by simpa using hg)
 | 0,[],_,h,_=>h.elim
 | 0,_::_,[],h,_=>h.elim
 | _+1,[],_,h,_=>h.elim
 | _+1,_::_,[],h,_=>h.elim
theorem spine_off:∀ {ts:List Ty} {p:Nat} {t:Ty},ts.all Ty.cell1=true→ts[p]?=some t→offP (spine ts) (spPath ts.length p)=some (p,t)∧inP (spine ts) (spPath ts.length p)
 | [],p,t,_,hp=>by simp at hp
 | [t'],0,t,_,hp=>by
  simp only [List.getElem?_cons_zero,Option.some.injEq] at hp
  subst hp
  exact ⟨by show offP t' []=_;rw [offP_nil],inP_nil _⟩
 | [t'],p+1,t,_,hp=>by simp at hp
 | t'::u::r,0,t,_,hp=>by
  simp only [List.getElem?_cons_zero,Option.some.injEq] at hp
  subst hp
  refine ⟨?_,?_⟩
  ·show offP t' []=_
   rw [offP_nil]
  ·show inP t' []
   exact inP_nil _
 | t'::u::r,p+1,t,h,hp=>by
  rw [List.all_cons,Bool.and_eq_true] at h
  have h1:=h.1
  simp only [Ty.cell1,Bool.and_eq_true] at h1
  obtain ⟨g1,g2⟩:=spine_off (ts:=u::r) (p:=p) h.2 (by simpa using hp)
  refine ⟨?_,g2⟩
  show (offP (spine (u::r)) (spPath (u::r).length p)).map (fun y=>(t'.n+y.1,y.2))=_
  rw [g1,Nat.eq_of_beq_eq_true h1.1]
  simp only [Option.map_some]
  rw [Nat.add_comm]
theorem spine_rep {P:Program} {w:World} {M:Nat→Prop}:∀ {vs:List Dv} {us:List Value},(vs.map (·.t)).all Ty.cell1=true→All2 (fun (u:Value) (d:Dv)=>VRep P d.t w M u d.x) us vs→Rep P (spine (vs.map (·.t))) w M us (spineD vs)
 | [],[],_,_=>rfl
 | [v],[u],h,hv=>by
  simp only [List.map_cons,List.map_nil,List.all_cons,List.all_nil,Bool.and_true,Ty.cell1,Bool.and_eq_true,Bool.not_eq_true'] at h
  obtain ⟨cs,h1,h2⟩:=hv.1
  obtain ⟨c,rfl,_⟩:=h1.single h.2
  have:u=c:=by rw [h2];simp only [pack,h.2,cond_false,List.headD_cons]
  subst this
  exact h1
 | v::v'::vs,u::us,h,hv=>by
  rw [List.map_cons,List.all_cons,Bool.and_eq_true] at h
  have h0:=h.1
  simp only [Ty.cell1,Bool.and_eq_true,Bool.not_eq_true'] at h0
  obtain ⟨cs,h1,h2⟩:=hv.1
  obtain ⟨c,rfl,_⟩:=h1.single h0.2
  have:u=c:=by rw [h2];simp only [pack,h0.2,cond_false,List.headD_cons]
  subst this
  exact ⟨[u],us,rfl,h1,spine_rep (vs:=v'::vs) h.2 hv.2⟩
 | [],_::_,_,h=>h.elim
 | _::_,[],_,h=>h.elim
 | [_],_::_::_,_,h=>h.2.elim
theorem clr_len:∀ {p:Nat} {l:List Dv},(clr p l).length=l.length
 | 0,[]=>rfl
 | 0,_::_=>rfl
 | _+1,[]=>rfl
 | p+1,_::l=>by simp only [clr,List.length_cons,clr_len (p:=p) (l:=l)]
theorem clr_t:∀ {p:Nat} {l:List Dv},(clr p l).map (·.t)=l.map (·.t)
 | 0,[]=>rfl
 | 0,_::_=>rfl
 | _+1,[]=>rfl
 | p+1,_::l=>by simp only [clr,List.map_cons,clr_t (p:=p) (l:=l)]
theorem nil_rep {P:Program} {w:World} {M:Nat→Prop} {t:Ty}:VRep P (.sl t) w M (.slice none 0 0) (Ty.sl t).z :=
 ⟨[.slice none 0 0],⟨none,0,rfl,by show (0:Nat)≤_;omega,.inl rfl⟩,rfl⟩
theorem svAt_parts {P:Program} {s:ASt} {β:Nat→Loc} {w:World} {M:Nat→Prop} {d:Nat}:∀ {p:Nat} {vs:List Dv} {us:List Value} {t:Ty} {x:(Ty.sl t).D},vs[p]?=some ⟨.sl t,x⟩→All2 (SVRep P s β w M) (svAt false d p vs) us →
  ∃ u,us[p]?=some u∧SVRep P s β w M (.os d) u∧us.length=vs.length∧All2 (fun (u:Value) (d:Dv)=>VRep P d.t w M u d.x) (us.set p (.slice none 0 0)) (clr p vs)
 | 0,v::vs,u::us,t,x,hp,h=>by
  simp only [List.getElem?_cons_zero,Option.some.injEq] at hp
  subst hp
  have key:∀ {vs:List Dv} {us:List Value},All2 (SVRep P s β w M) (vs.map fun v=>.d v.t v.x) us→us.length=vs.length∧All2 (fun (u:Value) (d:Dv)=>VRep P d.t w M u d.x) us vs:=by
   intro vs
   induction vs with
   | nil=>intro us h;cases us with
    | nil=>exact ⟨rfl,trivial⟩
    | cons _ _=>exact h.elim
   | cons v vs ih=>intro us h;cases us with
    | nil=>exact h.elim
    | cons u us=>exact ⟨by simp only [List.length_cons,(ih h.2).1],h.1,(ih h.2).2⟩
  obtain ⟨k1,k2⟩:=key h.2
  exact ⟨u,rfl,h.1,by simp only [List.length_cons,k1],nil_rep,k2⟩
 | p+1,v::vs,u::us,t,x,hp,h=>by
  obtain ⟨u',h1,h2,h3,h4⟩:=svAt_parts (p:=p) (vs:=vs) (us:=us) (by simpa using hp) h.2
  exact ⟨u',by simpa using h1,h2,by simp only [List.length_cons,h3],h.1,h4⟩
 | _,[],_,_,_,hp,_=>by simp at hp
 | 0,_::_,[],_,_,_,h=>h.elim
 | _+1,_::_,[],_,_,_,h=>h.elim
theorem avSt_rep (h:RelB K s a w β) {d p:Nat} {vs:List Dv} {us:List Value} {t:Ty} {x:(Ty.sl t).D} (hc:(vs.map (·.t)).all Ty.cell1=true) (hv:vs[p]?=some ⟨.sl t,x⟩) (hl:live s d=true) (hsv:All2 (SVRep K.P s β w (Mset K.Mg s β)) (svAt false d p vs) us) :
  AVRep K.P s β w (Mset K.Mg s β) (avSt d p vs) (.agg us.toArray):=by
 obtain ⟨u,h1,h2,h3,h4⟩:=svAt_parts hv hsv
 have hpl:p<us.length:=(List.getElem?_eq_some_iff.1 h1).1
 have ho:=spine_off (ts:=(clr p vs).map (·.t)) (p:=p) (t:=.sl t) (by rw [clr_t];exact hc) (by rw [clr_t,List.getElem?_map,hv];rfl)
 rw [List.length_map,clr_len] at ho
 refine ⟨us.set p (.slice none 0 0),[(p,u)],?_,?_,⟨⟨⟨.sl t,?_,rfl,rfl,sv_one h (sv:=.os d) (by exact hl) h2⟩,by rw [List.length_set];exact hpl,?_,h2⟩,trivial⟩⟩
 ·simp only [sets,List.set_set]
  have:us.set p u=us:=by
   apply List.ext_getElem?
   intro i
   rw [List.getElem?_set]
   by_cases e:p=i
   ·subst e;simp only [hpl,if_true,h1]
   ·simp only [e,if_false]
  rw [this]
 ·exact spine_rep (by rw [clr_t];exact hc) h4
 ·show offP (spine _) _=_
  exact ho.1
 ·exact ho.2
theorem upon_callN (hcx:CxOk K.P cx) (h:RelB K s a w β) (hop:∀ c,o.op≠.defer c) {f:Nat} {k:NCon} (hk:cx.ncon f=some k) {args:List AV} {us:List Value} (hus:All2 (AVRep K.P s β w (Mset K.Mg s β)) args us)
  (he:callNEff cx s d k args=some e) (hob:∀ r,e.obl=some r→r)
  (hrun:(execOp a.eval o).run K.P w=(callFunc f us.toArray).run K.P w)
  (hn:∀ v w' β',RelB K (after s e.wr) a w' β'→AVRep K.P (after s e.wr) β' w' (Mset K.Mg (after s e.wr) β') e.av v→next (a.put o.dst v) w'):o.wpIn (FF K.P r) n K.P a w next Q:=by
 unfold callNEff at he
 simp only at he
 split at he
 ·cases he
 rename_i vs hvs
 split at he
 ·cases he
 rename_i x hx
 split at he
 rotate_left
 ·cases he
 rename_i v hd hrow
 split at he
 rotate_left
 ·cases he
 rename_i ob hv
 obtain ⟨hst,he⟩:=cond_none he
 cases he
 have hoff:obFz ob=false:=by rcases newOb_cases hv with ⟨_,t,l,_,_,rfl⟩ | ⟨_,_,rfl⟩ | ⟨_,t,l,_,_,rfl⟩<;>rfl
 obtain ⟨hent,hh⟩:=hcx.ncon f k hk
 have hpre:k.pre x:=hob _ rfl
 have fin:∀ fz:List (Nat × Option Ob),cond (flatBut k.pos k.res||noneL args) [] (freeze s (args.flatMap (AV.open? s)))=fz→RelB K (after s fz) a w β→(after s fz).obs d=none→∀ M:Nat→Prop,(∀ b,M b→b<w.heap.size)→ARep K.P w M k.args us x→(flatBut k.pos k.res=true∨∀ b,Mset K.Mg (after s fz) β b→M b)→o.wpIn (FF K.P r) n K.P a w next Q:=by
  intro fz hfz h hd M hM hA hfl
  refine upon_enter hop (hrun.trans (hent _ _)) (hh w M us x hM hA hpre) ?_
  rintro e' w' ⟨us',L,rfl,hext,hL,hR⟩
  refine ⟨_,rfl,?_⟩
  obtain ⟨hLs,hob⟩:=nrep_ob hv hR hrow
  obtain ⟨r1,_,_⟩:=h.new (hsb:=hLs) (d:=d) (ob:=ob) (L:=L) hd hext hL (by rcases newOb_cases hv with ⟨_,t,l,_,_,rfl⟩ | ⟨_,_,rfl⟩ | ⟨_,t,l,_,_,rfl⟩<;>rfl) (fun _=>by
   rcases newOb_cases hv with ⟨_,t,l,rfl,htf,rfl⟩ | ⟨_,htf,rfl⟩ | ⟨_,t,l,rfl,htf,rfl⟩
   rotate_left 2
   ·exact hob
   ·obtain ⟨g1,g2,vss,g3,g4⟩:=hob
    exact ⟨g1,g2,vss,g3.mono fun _ _ hh=>Rep.flat htf hh,g4⟩
   ·obtain ⟨b,vs',e',g1,g2,g3⟩:=hob
    exact ⟨b,vs',e',g1,g2,Rep.flat htf g3⟩)
  have est:{ after s fz with obs:=put (after s fz).obs d (some (some ob)) }=after s ((d,some ob)::fz):=after_cons.symm
  have hsv:=nrep_svs (s2:={ after s fz with obs:=put (after s fz).obs d (some (some ob)) }) (β2:=put β d L) (M2:=Mset K.Mg { after s fz with obs:=put (after s fz).obs d (some (some ob)) } (put β d L)) hv (put_same _ _ _) (put_same _ _ _) hR (by
   rcases hfl with hfl | hfl
   ·left
    rw [unDs_types];exact hfl
   ·right
    rintro b _ (hb | ⟨x',ob',g1,g2,g3⟩)
    ·exact .inl (hfl b (.inl hb))
    ·by_cases hxd:x'=d
     ·subst hxd
      rw [put_same] at g3
      exact .inr g3
     ·have g1:put (after s fz).obs d _ x'=_:=g1
      rw [put_other _ _ hxd] at g1 g3
      exact .inl (hfl b (.inr ⟨x',ob',g1,g2,g3⟩)))
  rw [est] at r1 hsv
  rw [hfz] at hn
  refine hn _ w' _ r1 ?_
  unfold resN
  cases hks:k.st with
  | false =>
   exact avAt_rep hsv
  | true =>
   rw [hks] at hst
   simp only [Bool.not_true,Bool.false_or,Bool.and_eq_true,Bool.not_eq_true'] at hst
   rw [hst.1] at hsv
   show AVRep K.P (after s ((d,some ob)::fz)) (put β d L) w' (Mset K.Mg (after s ((d,some ob)::fz)) (put β d L)) (avSt d k.pos (unDs k.res (k.val x))) (.agg us'.toArray)
   obtain ⟨t,x',rfl⟩:∃ t x',v=⟨.sl t,x'⟩:=by
    rcases newOb_cases hv with ⟨_,t,l,e1,_,_⟩ | ⟨e1,_,_⟩ | ⟨_,t,l,e1,_,_⟩
    ·exact ⟨_,_,e1⟩
    ·rw [hst.1] at e1;cases e1
    ·exact ⟨_,_,e1⟩
   refine avSt_rep r1 (by rw [unDs_types];exact hst.2) hrow ?_ hsv
   unfold live
   rw [←est]
   show (match put (after s fz).obs d (some (some ob)) d with | some (some _)=>true | _=>false)=true
   rw [put_same]
 cases hc:(flatBut k.pos k.res||noneL args) with
 | true =>
  rw [hc,cond_true] at hvs
  have hfz:cond (flatBut k.pos k.res||noneL args) [] (freeze s (args.flatMap (AV.open? s)))=[]:=by rw [hc];rfl
  have hc':=hc
  rw [Bool.or_eq_true] at hc'
  rcases hc' with hc' | hc'
  ·exact fin [] hfz h hd K.Mg h.mg (mkDs_rep (avsB_rep hcx h hus (optAll_all2 hvs)) hx) (.inl hc')
  ·cases args with
   | nil =>
    have harg:=avs_rep (M':=Mset K.Mg s β) hcx h hus (optAll_all2 (f:=AV.dv cx s) hvs) ⟨fun _ hb=>hb,fun q hq=>by cases hq⟩
    exact fin [] hfz h hd _ (fun b hb=>h.mset_lt hb) (mkDs_rep harg hx) (.inr fun _ hb=>hb)
   | cons _ _=>cases hc'
 | false =>
  rw [hc,cond_false] at hvs
  have hs:solid cx s args=some (vs,args.flatMap AV.ids,freeze s (args.flatMap (AV.open? s))):=by
   unfold solid;rw [show optAll (AV.dv cx s) args=some vs from hvs]
  obtain ⟨h1,_,_,h4⟩:=solid_rep hcx h hs hus
  exact fin _ (by rw [hc];rfl) h1 (solid_none hs hd) _ (fun b hb=>h1.mset_lt hb) (mkDs_rep h4 hx) (.inr fun _ hb=>hb)
theorem run_callVal {c:Call} {f:Operand} (hop:o.op=.call c) (hc:c.callee=.value f) {g₁:FuncId} {first caps:Array Value} (hf:a.eval f=.func (.func g₁) first caps) :
  (execOp a.eval o).run K.P w=(callFunc g₁ (first++c.args.map a.eval++caps)).run K.P w:=by
 unfold execOp
 simp only [hop,resolve,hc,Deferred.ofValue,hf,Sem.run_bind,Sem.run_pure,Result.andThen_ok,invoke]
theorem run_invoke {c:Call} {f:Operand} {nm:String} (hop:o.op=.call c) (hc:c.callee=.invoke f nm) :
  (execOp a.eval o).run K.P w=(callMethod (a.eval f) nm (c.args.map a.eval)).run K.P w:=by
 have e:∀ (x:Value) (xs:Array Value),(#[x]++xs).extract 1 (#[x]++xs).size=xs:=fun x xs=>by apply Array.ext';simp
 have e2:∀ (x:Value) (xs:Array Value),(#[x]++xs)[0]?=some x:=fun x xs=>by rw [←Array.getElem?_toList,Array.toList_append];rfl
 unfold execOp
 simp only [hop,resolve,hc,Sem.run_bind,Sem.run_pure,Result.andThen_ok,invoke,e,e2]
theorem upon_invoke (hcx:CxOk K.P cx) (h:RelB K s a w β) (hg:Hold a g) {c:Call} (hop:o.op=.call c) {f:Operand} {nm:String} (hc:c.callee=.invoke f nm) (he:invEff cx s (ev cx s g 0 f) nm (argAVs (ev cx s g) c.args.toList c.argTypes.toList)=some e) (hob:∀ r,e.obl=some r→r)
  (hn:∀ v w' β',RelB K (after s e.wr) a w' β'→AVRep K.P (after s e.wr) β' w' (Mset K.Mg (after s e.wr) β') e.av v→next (a.put o.dst v) w'):o.wpIn (FF K.P r) n K.P a w next Q:=by
 have hf:=ev_rep (cx:=cx) h hg 0 f
 have hxs:=args_rep (cx:=cx) h hg c.args.toList c.argTypes.toList
 have hnd:∀ c',o.op≠.defer c':=fun c' hh=>by rw [hop] at hh;cases hh
 have hmap:(c.args.toList.map a.eval).toArray=c.args.map a.eval:=by apply Array.ext';simp
 generalize ev cx s g 0 f=af at he hf
 generalize argAVs (ev cx s g) c.args.toList c.argTypes.toList=axs at he hxs
 unfold invEff at he
 split at he
 ·rename_i m x
  split at he
  ·rename_i g₀ vs hg₀ hvs
   split at he
   ·rename_i y hy
    cases hfl:g₀.r.flat with
    | false=>rw [hfl] at he;cases he
    | true =>
     rw [hfl] at he
     simp only [cond_true,Option.some.injEq] at he
     subst he
     have hpre:=hob _ rfl
     have harg:=avs_rep hcx h hxs (optAll_all2 hvs) (under_mg h fun q hq=>by
      obtain ⟨av,_,hq⟩:=List.mem_flatMap.1 hq
      exact open_live hq)
     obtain ⟨ys,hAR,hys⟩:=mkAr_rep hy harg
     obtain ⟨cs,hcs,ef⟩:=hf
     have hone:∃ v,cs=[v]∧a.eval f=v:=by
      cases m<;>first | cases hg₀ | skip
      obtain ⟨v,rfl,_⟩:=hcs
      exact ⟨v,rfl,ef⟩
     obtain ⟨v,rfl,ev⟩:=hone
     obtain ⟨g₁,u,hent,hcall⟩:=imGet_rep hcs hg₀ w K.Mg _ ys y (.refl _ _) hAR hys hpre
     refine upon_enter hnd ((run_invoke hop hc).trans (by rw [ev];exact hent _ _)) (by rw [←hmap];exact hcall) ?_
     rintro e w' ⟨z,zs,rfl,hext,hz,rfl⟩
     obtain ⟨g1,g2⟩:=h.grow hext
     exact ⟨_,rfl,hn _ w' β g1 (VRep.flat hfl ⟨zs,hz,rfl⟩)⟩
   ·cases he
  ·cases he
 ·cases he
theorem upon_callL (hcx:CxOk K.P cx) (h:RelB K s a w β) (hop:∀ c,o.op≠.defer c) {f:Nat} {k:LCon} (hk:cx.lcon f=some k) {args:List AV} {caps:List SV} {us vs:List Value}
  (hus:All2 (AVRep K.P s β w (Mset K.Mg s β)) args us) (hcs:All2 (SVRep K.P s β w (Mset K.Mg s β)) caps vs) (he:callLEff cx s d f k args caps=some e) (hob:∀ r,e.obl=some r→r)
  (hrun:(execOp a.eval o).run K.P w=(callFunc f (us++vs).toArray).run K.P w)
  (hn:∀ v w' β',RelB K (after s e.wr) a w' β'→AVRep K.P (after s e.wr) β' w' (Mset K.Mg (after s e.wr) β') e.av v→next (a.put o.dst v) w'):o.wpIn (FF K.P r) n K.P a w next Q:=by
 obtain ⟨hent,hh⟩:=hcx.lcon f k hk
 exact upon_callLG (p:=⟨k,0,fun _=>true⟩) hcx h hop ⟨hent,fun w M β vs x h1 h2 h3 h4=>(hh w M β vs x h1 h2 h3 h4).mono fun e w' hL=>.inl ⟨rfl,hL⟩⟩ hus hcs he hob hrun (fun _ _ _ _ _ h=>by cases h) fun _=>hn
theorem svs_avs {M:Nat→Prop}:∀ {l:List SV} {us:List Value},All2 (SVRep K.P s β w M) l us→All2 (AVRep K.P s β w M) (l.map .s) us
 | [],[],_=>trivial
 | _::_,_::_,h=>⟨h.1,svs_avs h.2⟩
 | [],_::_,h=>h.elim
 | _::_,[],h=>h.elim
theorem upon_callVal (hcx:CxOk K.P cx) (h:RelB K s a w β) (hg:Hold a g) {c:Call} (hop:o.op=.call c) {f:Operand} (hc:c.callee=.value f) (he:callVal cx s d (ev cx s g 0 f) (argAVs (ev cx s g) c.args.toList c.argTypes.toList)=some e) (hob:∀ r,e.obl=some r→r)
  (hn:∀ v w' β',RelB K (after s e.wr) a w' β'→AVRep K.P (after s e.wr) β' w' (Mset K.Mg (after s e.wr) β') e.av v→next (a.put o.dst v) w'):o.wpIn (FF K.P r) n K.P a w next Q:=by
 have hf:=ev_rep (cx:=cx) h hg 0 f
 have hxs:=args_rep (cx:=cx) h hg c.args.toList c.argTypes.toList
 have hnd:∀ c',o.op≠.defer c':=fun c' hh=>by rw [hop] at hh;cases hh
 have hmap:(c.args.toList.map a.eval).toArray=c.args.map a.eval:=by apply Array.ext';simp
 generalize ev cx s g 0 f=af at he hf
 generalize argAVs (ev cx s g) c.args.toList c.argTypes.toList=axs at he hxs
 unfold callVal at he
 split at he
 rotate_left
 ·rename_i g₁ v
  obtain ⟨u,ef,hu⟩:=hf
  split at he
  ·rename_i kl hkl
   refine upon_callL hcx h hnd hkl (args:=.s v::axs) (caps:=[]) (us:=u::c.args.toList.map a.eval) (vs:=[]) ⟨hu,hxs⟩ trivial he hob ?_ hn
   rw [run_callVal hop hc ef,←hmap]
   simp
  ·cases he
 rotate_right
 ·rename_i g₁ cs
  obtain ⟨us,ef,hus⟩:=hf
  split at he
  ·rename_i kl hkl
   refine upon_callL hcx h hnd hkl hxs hus he hob ?_ hn
   rw [run_callVal hop hc ef,←hmap]
   simp
  ·split at he
   ·rename_i kn hkn
    refine upon_callN hcx h hnd hkn (hxs.append (svs_avs hus)) he hob ?_ hn
    rw [run_callVal hop hc ef,←hmap]
    simp
   ·refine upon_call hcx h hnd (hxs.append (svs_avs hus)) he hob ?_ hn
    rw [run_callVal hop hc ef,←hmap]
    simp
 ·rename_i t r₁ F
  split at he
  ·rename_i x
   split at he
   ·rename_i v hv
    split at he
    ·rename_i y hy
     cases hfl:r₁.flat with
     | false=>rw [hfl] at he;cases he
     | true =>
      rw [hfl] at he
      simp only [cond_true,Option.some.injEq] at he
      subst he
      have hpre:=hob _ rfl
      cases hu:c.args.toList.map a.eval with
      | nil=>rw [hu] at hxs;exact hxs.elim
      | cons u us =>
       rw [hu] at hxs
       cases us with
       | cons _ _=>exact hxs.2.elim
       | nil =>
        have hv':=castD_vrep hy (AV.dv_rep hcx h hxs.1 hv (under_mg h fun q hq=>open_live hq))
        obtain ⟨_,⟨fv,rfl,_,hF⟩,ef⟩:=hf
        have ef:a.eval f=fv:=ef
        obtain ⟨g₁,first,caps,rfl,hent,hcall⟩:=hF w K.Mg u y (.refl _ _) hv' hpre
        refine upon_enter hnd ((run_callVal hop hc ef).trans (by rw [←hmap,hu];exact hent _ _)) hcall ?_
        rintro e w' ⟨z,zs,rfl,hext,hz,rfl⟩
        obtain ⟨g1,g2⟩:=h.grow hext
        exact ⟨_,rfl,hn _ w' β g1 (VRep.flat hfl ⟨zs,hz,rfl⟩)⟩
    ·cases he
   ·cases he
  ·cases he
 ·rename_i t₁ t₂ r₁ F
  split at he
  ·rename_i x x'
   split at he
   ·rename_i v v' hv hv'
    split at he
    ·rename_i y y' hy hy'
     cases hfl:r₁.flat with
     | false=>rw [hfl] at he;cases he
     | true =>
      rw [hfl] at he
      simp only [cond_true,Option.some.injEq] at he
      subst he
      have hpre:=hob _ rfl
      cases hu:c.args.toList.map a.eval with
      | nil=>rw [hu] at hxs;exact hxs.elim
      | cons u us =>
       rw [hu] at hxs
       cases us with
       | nil=>exact hxs.2.elim
       | cons u' us =>
        cases us with
        | cons _ _=>exact hxs.2.2.elim
        | nil =>
         have hv1:=castD_vrep hy (AV.dv_rep hcx h hxs.1 hv (under_mg h fun q hq=>open_live hq))
         have hv2:=castD_vrep hy' (AV.dv_rep hcx h hxs.2.1 hv' (under_mg h fun q hq=>open_live hq))
         obtain ⟨_,⟨fv,rfl,_,hF⟩,ef⟩:=hf
         have ef:a.eval f=fv:=ef
         obtain ⟨g₁,first,caps,rfl,hent,hcall⟩:=hF w K.Mg u u' y y' (.refl _ _) hv1 hv2 hpre
         refine upon_enter hnd ((run_callVal hop hc ef).trans (by rw [←hmap,hu];exact hent _ _)) hcall ?_
         rintro e w' ⟨z,zs,rfl,hext,hz,rfl⟩
         obtain ⟨g1,g2⟩:=h.grow hext
         exact ⟨_,rfl,hn _ w' β g1 (VRep.flat hfl ⟨zs,hz,rfl⟩)⟩
    ·cases he
   ·cases he
  ·cases he
 ·rename_i t₁ t₂ t₃ r₁ F
  split at he
  ·rename_i x x' x''
   split at he
   ·rename_i v v' v'' hv hv' hv''
    split at he
    ·rename_i y y' y'' hy hy' hy''
     cases hfl:r₁.flat with
     | false=>rw [hfl] at he;cases he
     | true =>
      rw [hfl] at he
      simp only [cond_true,Option.some.injEq] at he
      subst he
      have hpre:=hob _ rfl
      cases hu:c.args.toList.map a.eval with
      | nil=>rw [hu] at hxs;exact hxs.elim
      | cons u us =>
       rw [hu] at hxs
       cases us with
       | nil=>exact hxs.2.elim
       | cons u' us =>
        cases us with
        | nil=>exact hxs.2.2.elim
        | cons u'' us =>
         cases us with
         | cons _ _=>exact hxs.2.2.2.elim
         | nil =>
          have hv1:=castD_vrep hy (AV.dv_rep hcx h hxs.1 hv (under_mg h fun q hq=>open_live hq))
          have hv2:=castD_vrep hy' (AV.dv_rep hcx h hxs.2.1 hv' (under_mg h fun q hq=>open_live hq))
          have hv3:=castD_vrep hy'' (AV.dv_rep hcx h hxs.2.2.1 hv'' (under_mg h fun q hq=>open_live hq))
          obtain ⟨_,⟨fv,rfl,_,hF⟩,ef⟩:=hf
          have ef:a.eval f=fv:=ef
          obtain ⟨g₁,first,caps,rfl,hent,hcall⟩:=hF w K.Mg u u' u'' y y' y'' (.refl _ _) hv1 hv2 hv3 hpre
          refine upon_enter hnd ((run_callVal hop hc ef).trans (by rw [←hmap,hu];exact hent _ _)) hcall ?_
          rintro e w' ⟨z,zs,rfl,hext,hz,rfl⟩
          obtain ⟨g1,g2⟩:=h.grow hext
          exact ⟨_,rfl,hn _ w' β g1 (VRep.flat hfl ⟨zs,hz,rfl⟩)⟩
    ·cases he
   ·cases he
  ·cases he
 ·cases he
theorem eff0u_sound (hcx:CxOk K.P cx) (h:RelB K s a w β) (hg:Hold a g) (he:eff0 cx s g o=some e) (hob:∀ r,e.obl=some r→r)
  (hn:∀ v w' β',RelB K (after s e.wr) a w' β'→AVRep K.P (after s e.wr) β' w' (Mset K.Mg (after s e.wr) β') e.av v→next (a.put o.dst v) w'):o.wpIn (FF K.P r) n K.P a w next Q:=by
 have hnd:∀ c',o.op≠.defer c':=fun c' hh=>by
  simp only [eff0,hh] at he;cases o.dst<;>cases he
 have fin:Did K s a w o e→o.wpIn (FF K.P r) n K.P a w next Q:=fun hD=>upon_did hnd hD hn
 cases hd:o.dst with
 | none =>
  by_cases hmu:∃ T x y z,o.op=.mapUpdate T x y z∨o.op=.insert T x y z
  ·obtain ⟨T,x,y,z,hop⟩:=hmu
   have he:mapUpdateEff cx s T (ev cx s g T x) (ev cx s g (keyTy cx T) y) (ev cx s g (elemTy cx T) z)=some e:=by
    rcases hop with hop | hop<;>· simp only [eff0,hop,hd] at he;exact he
   have hav:e.av=.un:=by
    have he':=he
    unfold mapUpdateEff at he'
    repeat' split at he'
    all_goals first | (cases he';done) | skip
    all_goals rw [Bool.cond_eq_ite] at he';split at he'<;>first | (cases he';rfl) | cases he'
   exact upon_dids hnd hav (did_mapUpdate hcx h hg hop he hob) hn
  cases hop:o.op<;>simp only [eff0,hop,hd,reduceCtorEq] at he
  case mapUpdate T x y z=>exact absurd ⟨T,x,y,z,.inl hop⟩ hmu
  case insert T x y z=>exact absurd ⟨T,x,y,z,.inr hop⟩ hmu
  rename_i T x y
  have he':=he
  have:e.av=.un:=by
   have hho:∀ {S:ASt} {T o q t y hs v e},holdOne cx S T o q t y hs v=some e→e.av=.un:=by
    intro S T o q t y hs v e h
    unfold holdOne at h
    repeat' split at h
    all_goals first | (cases h;done) | skip
    all_goals (rw [Bool.cond_eq_ite] at h;split at h<;>first | (cases h;rfl) | cases h)
   have hhe:∀ {T o q t y hs v e},holdEff cx s T o q t y hs v=some e→e.av=.un:=by
    intro T o q t y hs v e h
    unfold holdEff at h
    split at h
    ·exact hho h
    ·split at h
     ·rw [Bool.cond_eq_ite] at h
      split at h
      ·cases h
      ·simp only [Option.map_eq_some_iff] at h
       obtain ⟨e',h1,rfl⟩:=h
       show e'.av=.un
       exact hho h1
     ·cases h
    ·cases h
   have hsa:∀ {T o q t v e},storeAg cx T o q t v=some e→e.av=.un:=by
    intro T o q t v e h
    unfold storeAg at h
    repeat' split at h
    all_goals first | (cases h;done) | skip
    all_goals (rw [Bool.cond_eq_ite] at h;split at h<;>first | (cases h;rfl) | cases h)
   unfold storeEff storeB at he'
   repeat' split at he'
   all_goals first | (cases he';exact hhe ‹_›) | (cases he';exact hsa ‹_›) | skip
   all_goals first | (cases he';done) | skip
   all_goals (rw [Bool.cond_eq_ite] at he';split at he'<;>first | (cases he';rfl) | cases he')
  exact upon_dids hnd this (did_store hcx h hg hop hd (by simp only [eff0,hop,hd];exact he)) hn
 | some d =>
  cases hop:o.op with
  | move x=>exact fin (did_move (cx:=cx) h hg (.inl hop) (by simp only [eff0,hop,hd] at he;exact ok_some he))
  | assign x=>exact fin (did_move (cx:=cx) h hg (.inr hop) (by simp only [eff0,hop,hd] at he;exact ok_some he))
  | pick c x y=>exact fin (did_pick h hg hop hd he)
  | alloc T=>exact fin (did_alloc hcx h hop hd he)
  | box T x=>exact fin (did_box hcx h hg hop hd he)
  | build T ps =>
   cases hm:memN d cx.hld with
   | true =>
    refine fin (did_buildAg (d₀:=d) hcx h hg hop ?_)
    simp only [eff0,hop,hd] at he
    rw [hm,cond_true] at he
    exact he
   | false=>exact fin (did_build hcx h hg hop hd hm he)
  | buildSlice T m ps=>exact fin (did_buildSlice hcx h hg hop hd he)
  | load T x=>exact fin (did_load hcx h hg hop hd he)
  | binOp op T x y U=>exact fin (did_binOp hcx h hg hop hd he hob)
  | unOp op T x=>exact fin (did_unOp h hg hop hd he hob)
  | convert S T x=>exact fin (did_convert hcx h hg hop hd he)
  | makeMap T m =>
   cases m with
   | none=>exact fin (did_makeMap hcx h hop hd he)
   | some _=>simp only [eff0,hop,hd,reduceCtorEq] at he
  | makeFunc f x y =>
   cases f with
   | func f=>exact fin (did_makeFunc hcx h hg hop hd he)
   | method nm=>exact fin (did_makeMeth h hg hop hd he)
   | _=>simp only [eff0,hop,hd,reduceCtorEq] at he
  | lookup T m k cok =>
   refine fin (did_lookup hcx h hg hop ?_)
   simp only [eff0,hop,hd] at he
   exact he
  | makeSlice T x y=>exact fin (did_makeSlice hcx h hg hop hd he hob)
  | slice T x lo hi mx =>
   cases mx with
   | none=>exact fin (did_slice hcx h hg hop hd he hob)
   | some _=>simp only [eff0,hop,hd,reduceCtorEq] at he
  | fieldAddr T x k=>exact fin (did_fieldAddr hcx h hg hop hd he)
  | nilCheck x=>exact fin (did_nilCheck h hg hop hd he hob)
  | field T x k=>exact fin (did_field hcx h hg hop hd he)
  | indexAddr T x i=>exact fin (did_indexAddr hcx h hg hop hd he hob)
  | index T x i=>exact fin (did_index hcx h hg hop hd he hob)
  | extract x k=>exact fin (did_extract h hg hop hd he)
  | makeInterface T x =>
   simp only [eff0,hop,hd] at he
   split at he
   ·rename_i e' he'
    cases he
    exact fin (did_ex hcx h hg hop he')
   ·exact fin (did_iface hcx h hg hop he)
  | call c =>
   simp only [eff0,hop,hd] at he
   split at he
   ·rename_i b hb
    unfold builtinEff at he
    split at he
    ·rename_i x hx
     split at he
     ·rename_i t l T hv hts
      split at he
      ·rename_i t' hT
       exact fin (did_len hcx h hg hop hb hx hts hv hT (Option.some.inj he).symm)
      ·cases he
     ·cases he
    ·split at he
     ·rename_i l hl
      simp only [Option.bind_eq_some_iff] at he
      obtain ⟨m,hm,he⟩:=he
      exact fin (did_maxmin h hg hop hb hl (.inl ⟨rfl,hm⟩) (ok_some he))
     ·cases he
    ·split at he
     ·rename_i l hl
      simp only [Option.bind_eq_some_iff] at he
      obtain ⟨m,hm,he⟩:=he
      exact fin (did_maxmin h hg hop hb hl (.inr ⟨rfl,hm⟩) (ok_some he))
     ·cases he
    ·rename_i x y hx
     split at he
     ·rename_i T T' hts
      cases hq:memN d cx.rqs with
      | true=>rw [hq] at he;exact fin (did_appendQ hcx h hg hop hb hx hts he hob)
      | false=>rw [hq] at he;exact fin (did_append hcx h hg hop hb hx hts he hob)
     ·cases he
    ·cases he
   ·rename_i f hf
    exact upon_callVal hcx h hg hop hf he hob hn
   ·rename_i f nm hf
    exact upon_invoke hcx h hg hop hf he hob hn
  | range T x =>
   simp only [eff0,hop,hd] at he
   exact fin (did_range hcx h hg hop hd he)
  | entry x =>
   simp only [eff0,hop,hd] at he
   exact fin (did_entry hcx h hg hop he hob)
  | _=>simp only [eff0,hop,hd,reduceCtorEq] at he
theorem effR_sound (hcx:CxOk K.P cx) (h:RelB K s a w β) (hg:Hold a g) (he:effR cx s g o=some e) (hob:∀ r,e.obl=some r→r)
  (hn:∀ v w' β',RelB K (after s e.wr) a w' β'→AVRep K.P (after s e.wr) β' w' (Mset K.Mg (after s e.wr) β') e.av v→next (a.put o.dst v) w'):o.wpIn (FF K.P r) n K.P a w next Q:=by
 have hnd:∀ c',o.op≠.defer c':=fun c' hh=>by
  simp only [effR,hh] at he;cases o.dst<;>cases he
 have fin:Did K s a w o e→o.wpIn (FF K.P r) n K.P a w next Q:=fun hD=>upon_did hnd hD hn
 cases hd:o.dst with
 | none =>
  cases hop:o.op<;>simp only [effR,hop,hd,reduceCtorEq] at he
  obtain ⟨h1,h2⟩:=dids_storeRR hcx h hg hop he
  exact upon_dids hnd h2 h1 hn
 | some d =>
  cases hop:o.op with
  | assign x =>
   simp only [effR,hop,hd] at he
   obtain ⟨_,he⟩:=cond_none he
   exact fin (did_nilR hcx h hg hop hd he)
  | buildSlice T n ps =>
   simp only [effR,hop,hd] at he
   obtain ⟨_,he⟩:=cond_none he
   exact fin (did_buildR hcx h hg hop hd he).did
  | makeSlice T x y =>
   simp only [effR,hop,hd] at he
   obtain ⟨_,he⟩:=cond_none he
   split at he
   ·rename_i n m hx hy
    exact fin (did_makeR hcx h hg hop hd hx hy he hob)
   ·cases he
  | makeFunc F x y =>
   cases F with
   | func f =>
    simp only [effR,hop,hd] at he
    split at he
    ·rename_i q c hx0 hq hc
     have hvs:=caps_rep h hg (optAll_all2 hc)
     have hrun:(execOp a.eval o).run K.P w=.ok (.value (.func (.func f) #[] (y.toList.map a.eval).toArray)) w:=by
      have e1:x=#[]:=by
       apply Array.ext'
       exact hx0
      have e2:y.map a.eval=(y.toList.map a.eval).toArray:=by apply Array.ext';simp
      rw [e2.symm];simp [execOp,hop,e1,Instr.makeFunc]
     exact fin (did_frcB hcx h hvs hrun he)
    ·cases he
   | _=>simp only [effR,hop,hd,reduceCtorEq] at he
  | load T x =>
   simp only [effR,hop,hd] at he
   rw [Bool.cond_eq_ite] at he
   split at he
   ·exact fin (did_loadAg hcx h hg hop he)
   ·exact fin (did_loadR hcx h hg hop he)
  | call c =>
   simp only [effR,hop,hd] at he
   split at he
   ·rename_i T T' x y hb hts hxs
    obtain ⟨hc,he⟩:=cond_none he
    rw [Bool.and_eq_true] at hc
    obtain ⟨_,_,_,_,hD⟩:=did_appendR hcx h hg hop hb hxs hts hc.2 he hob
    exact fin hD.did
   ·cases he
  | _=>simp only [effR,hop,hd,reduceCtorEq] at he
theorem effZ_sound (hcx:CxOk K.P cx) (h:RelB K s a w β) (hg:Hold a g) (he:effZ cx s g o=some e) (hob:∀ r,e.obl=some r→r)
  (hn:∀ v w' β',RelB K (after s e.wr) a w' β'→AVRep K.P (after s e.wr) β' w' (Mset K.Mg (after s e.wr) β') e.av v→next (a.put o.dst v) w'):o.wpIn (FF K.P r) n K.P a w next Q:=by
 have hnd:∀ c',o.op≠.defer c':=fun c' hh=>by
  simp only [effZ,hh] at he;cases o.dst<;>cases he
 have fin:Did K s a w o e→o.wpIn (FF K.P r) n K.P a w next Q:=fun hD=>upon_did hnd hD hn
 cases hd:o.dst with
 | none =>
  cases hop:o.op<;>simp only [effZ,hop,hd,reduceCtorEq] at he
  obtain ⟨h1,h2⟩:=dids_storeZ hcx h hg hop he hob
  exact upon_dids hnd h2 h1 hn
 | some d =>
  cases hop:o.op with
  | alloc T =>
   simp only [effZ,hop,hd] at he
   obtain ⟨_,he⟩:=cond_none he
   exact fin (did_allocZ hcx h hop he)
  | load T x =>
   simp only [effZ,hop,hd] at he
   exact fin (did_loadZ hcx h hg hop he)
  | binOp op T x y U =>
   simp only [effZ,hop,hd] at he
   exact fin (did_heldZ hcx h hg hop he)
  | call c =>
   simp only [effZ,hop,hd] at he
   split at he
   ·rename_i T T' x y hb hts hxs
    exact fin (did_copyZ hcx h hg hop hb hxs hts he hob)
   ·cases he
  | _=>simp only [effZ,hop,hd,reduceCtorEq] at he
theorem eff_sound (hcx:CxOk K.P cx) (h:RelB K s a w β) (hg:Hold a g) (he:eff cx s g o=some e) (hob:∀ r,e.obl=some r→r)
  (hn:∀ v w' β',RelB K (after s e.wr) a w' β'→AVRep K.P (after s e.wr) β' w' (Mset K.Mg (after s e.wr) β') e.av v→next (a.put o.dst v) w'):o.wpIn (FF K.P r) n K.P a w next Q:=by
 have he:=(eff_split he).2
 unfold eff1 at he
 split at he
 ·rename_i e' hZ
  cases he
  exact effZ_sound hcx h hg hZ hob hn
 split at he
 ·rename_i e' hR
  cases he
  exact effR_sound hcx h hg hR hob hn
 ·exact eff0u_sound hcx h hg he hob hn
theorem known_ex (hcx:CxOk K.P cx) {f:Nat} (h:known cx f=true):(K.P.funcs[f]?).isSome=true:=by
 simp only [known,Bool.or_eq_true,Option.isSome_iff_exists] at h
 rcases h with ⟨k,h⟩ | ⟨k,h⟩ | ⟨k,h⟩ | ⟨k,h⟩ | ⟨k,h⟩
 ·exact (hcx.con _ _ h).1.ex
 ·exact (hcx.lcon _ _ h).1.ex
 ·exact (hcx.pcon _ _ h).1.ex
 ·exact (hcx.ncon _ _ h).1.ex
 ·exact (hcx.icon _ _ h).1.ex
theorem eqG_eq:∀ {l r:List (Nat × Bool)},eqG l r=true→l=r
 | [],[],_=>rfl
 | (a,b)::l,(c,d)::r,h=>by
  simp only [eqG,Bool.and_eq_true] at h
  have h1:=Nat.eq_of_beq_eq_true h.1
  have h2:b=d:=by have:=h.2.1;cases b<;>cases d<;>first | rfl | cases this
  rw [h1,h2,eqG_eq h.2.2]
theorem still_about (hcx:CxOk K.P cx) (h:RelB K s a w β) (hs:stillOk cx s g o=true) (hng:¬ Hold a g):∀ f,o.about K.P w a.eval=some f→(FF K.P r).fn f:=by
 intro f hf
 cases g with
 | nil=>exact absurd (fun x hx=>by cases hx) hng
 | cons y g =>
  unfold Oper.about at hf
  unfold stillOk at hs
  split at hf
  ·rename_i c hop
   simp only [hop] at hs
   split at hs
   ·rename_i b hb
    simp only [resolve,hb,Sem.run_pure,Target.leads] at hf
    cases hf
   ·rename_i g' hb
    simp only [resolve,hb,Act.eval,Deferred.ofValue,Sem.run_pure,Target.leads,Option.some.injEq] at hf
    subst hf
    exact known_ex hcx hs
   ·rename_i t hb
    have e:=eqG_eq hs
    have hu:=(h.env t).2 (by rw [e];exact hng)
    have hv:a.eval (.tmp t)=undef:=hu
    simp [resolve,hb,hv,Deferred.ofValue,undef,stuck] at hf
   ·rename_i t nm hb
    have e:=eqG_eq hs
    have hu:=(h.env t).2 (by rw [e];exact hng)
    have hv:a.eval (.tmp t)=undef:=hu
    simp [resolve,hb,hv,Sem.run_pure,Target.leads,undef] at hf
    have h0:(#[Value.tuple #[]]++Array.map a.eval c.args)[0]?=some (Value.tuple #[]):=by simp [Array.getElem?_append]
    rw [h0] at hf
    cases hf
   ·cases hs
  ·cases hf
end
end Go.Sx
/-
 The symbolic layer,part 19: regions in their order.
-/
namespace Go.Sx
section
variable {K:Ctx} {s:ASt} {a:Act} {w w':World} {β:Nat→Loc} {cx:Cx} {g:List (Nat × Bool)} {o:Oper} {e:Eff} {d:Nat}
variable {r:Option Nat} {n:Nat} {Q:Exit→Act→World→Prop} {ops:Array Oper}
def NoG (s:ASt):Prop:=∀ t,(s.env t).g=[]
theorem NoG.bare (s:ASt):NoG s.bare:=by
 intro t
 simp only [ASt.bare]
 split
 ·assumption
 ·rfl
theorem guard_val (h:RelB K s a w β) {g:List (Nat × Bool)} (hg:Hold a g) {t:Nat} {b x:Bool} (ht:(t,b)∈g) (hv:(s.env t).v=.s (.d .bo x)):x=b:=by
 have h1:a.tmps.getD t undef=.bool b:=hg _ ht
 by_cases hh:Hold a (s.env t).g
 ·have h2:=(h.env t).1 hh
  rw [hv] at h2
  have:=bool_val h2
  rw [h1] at this
  cases this;rfl
 ·have h2:=(h.env t).2 hh
  rw [h1] at h2;cases h2
theorem hold_cond (h:RelB K s a w β):∀ {g g':List (Nat × Bool)},Hold a g'→(∀ x∈g,x∈g')→∀ c,gCond s g=some c→c
 | [],_,_,_,c,hc=>by cases hc
 | (t,b)::g,g',hg,hs,c,hc=>by
  have h0:(match (s.env t).v with | .s (.d .bo x)=>cond b (Z.isT x) (Z.isF x) | _=>True):=by
   split
   ·rename_i x hx
    have:=guard_val h hg (hs _ List.mem_cons_self) hx
    subst this
    cases x<;>rfl
   ·trivial
  simp only [gCond] at hc
  split at hc
  ·cases hc;exact h0
  ·rename_i c' hc'
   cases hc
   exact ⟨h0,hold_cond h hg (fun x hx=>hs x (List.mem_cons_of_mem _ hx)) c' hc'⟩
def GInv (ops:Array Oper) (D:Nat→Prop) (s:ASt):Prop :=
 ∀ t,∀ x∈(s.env t).g,∃ j,D j∧dstAt ops j=some x.1∧∃ i b,guardAt ops i=some (j,b)
theorem guards_fact (h:guardsOk ops=true) {i j:Nat} {b:Bool} (hi:guardAt ops i=some (j,b)):j<i∧∃ t,dstAt ops j=some t∧∀ k,dstAt ops k=some t→k=j:=by
 unfold guardsOk at h
 simp only [List.all_eq_true,List.mem_range] at h
 have hlt:∀ {k:Nat} {α:Type} {f:Oper→Option α} {x:α},(ops[k]?).bind f=some x→k<ops.size:=by
  intro k α f x hk
  cases ho:ops[k]? with
  | none=>rw [ho] at hk;cases hk
  | some _=>exact (Array.getElem?_eq_some_iff.1 ho).1
 have h1:=h i (hlt hi)
 rw [hi] at h1
 simp only [Bool.and_eq_true] at h1
 obtain ⟨h1,h2⟩:=h1
 refine ⟨Nat.le_of_ble_eq_true h1,?_⟩
 split at h2
 ·rename_i t ht
  refine ⟨t,ht,fun k hk=>?_⟩
  simp only [List.all_eq_true,List.mem_range,Bool.or_eq_true] at h2
  rcases h2 k (hlt hk) with h3 | h3
  ·exact Nat.eq_of_beq_eq_true h3
  ·rw [hk] at h3
   simp only [Bool.not_eq_true'] at h3
   rw [Nat.beq_refl] at h3;cases h3
 ·cases h2
theorem chain_fact (h:RelB K s a w β) (hch:chain s ops o=some g):(Region.wanted o (yielded ops a.tmps)=true↔Hold a g) ∧
  (o.guard=none∧g=[]∨∃ j b t,o.guard=some (j,b)∧dstAt ops j=some t∧g=(t,b)::(s.env t).g):=by
 unfold chain at hch
 split at hch
 ·rename_i hgd
  cases hch
  refine ⟨⟨fun _=>(fun x hx=>by cases hx),fun _=>by simp [Region.wanted,hgd]⟩,.inl ⟨hgd,rfl⟩⟩
 ·rename_i j b hgd
  split at hch
  ·rename_i t ht
   split at hch
   ·rename_i x hx
    cases hch
    refine ⟨?_,.inr ⟨j,b,t,hgd,ht,rfl⟩⟩
    have hsz:∀ v,a.tmps.getD t undef=v→v≠undef→a.tmps[t]?=some v:=by
     intro v hv hne
     rw [Array.getD_eq_getD_getElem?] at hv
     cases hq:a.tmps[t]? with
     | none=>rw [hq] at hv;exact absurd hv.symm hne
     | some u=>rw [hq] at hv;rw [←hv];rfl
    have hy:yielded ops a.tmps j=match a.tmps[t]? with | some (.bool b)=>some b | _=>none:=by
     unfold yielded
     rw [ht]
     rfl
    by_cases hh:Hold a (s.env t).g
    ·have h2:=(h.env t).1 hh
     rw [hx] at h2
     have hv:=bool_val h2
     have:=hsz _ hv (by simp [undef])
     constructor
     ·intro hw
      simp only [Region.wanted,hgd,hy,this,beq_iff_eq,Option.some.injEq] at hw
      subst hw
      intro y hy
      rcases List.mem_cons.1 hy with rfl | hy
      ·exact hv
      ·exact hh y hy
     ·intro hg
      have:=guard_val h hg List.mem_cons_self hx
      subst this
      simp [Region.wanted,hgd,hy, *]
    ·have h2:=(h.env t).2 hh
     constructor
     ·intro hw
      exfalso
      simp only [Region.wanted,hgd,hy,beq_iff_eq] at hw
      rw [Array.getD_eq_getD_getElem?] at h2
      cases hq:a.tmps[t]? with
      | none=>rw [hq] at hw;cases hw
      | some u =>
       rw [hq] at h2 hw
       have h2:u=undef:=h2
       subst h2
       cases hw
     ·intro hg
      exact absurd (fun y hy=>hg y (List.mem_cons_of_mem _ hy)) hh
   ·cases hch
  ·cases hch
theorem dst_fresh (hgo:guardsOk ops=true) {D:Nat→Prop} (hG:GInv ops D s) {i:Nat} (hi:ops[i]?=some o) (hD:¬ D i) (hd:o.dst=some d):∀ t,∀ x∈(s.env t).g,x.1≠d:=by
 intro t x hx he
 obtain ⟨j,hj,hdj,i',b,hi'⟩:=hG t x hx
 obtain ⟨_,t',ht',hu⟩:=guards_fact hgo hi'
 rw [hdj] at ht'
 cases ht'
 have:dstAt ops i=some x.1:=by unfold dstAt;rw [hi,he];exact hd
 exact hD (hu i this▸hj)
theorem g_fresh (hgo:guardsOk ops=true) {D:Nat→Prop} (hG:GInv ops D s) {i:Nat} (hi:ops[i]?=some o) (hD:¬ D i) (hDj:∀ j b,guardAt ops i=some (j,b)→D j)
  (hch:(o.guard=none∧g=[]∨∃ j b t,o.guard=some (j,b)∧dstAt ops j=some t∧g=(t,b)::(s.env t).g)):∀ x∈g,∃ j,D j∧dstAt ops j=some x.1∧∃ i b,guardAt ops i=some (j,b):=by
 rcases hch with ⟨_,rfl⟩ | ⟨j,b,t,h1,h2,rfl⟩
 ·intro x hx;cases hx
 ·intro x hx
  have hg':guardAt ops i=some (j,b):=by unfold guardAt;rw [hi];exact h1
  rcases List.mem_cons.1 hx with rfl | hx
  ·exact ⟨j,hDj j b hg',h2,i,b,hg'⟩
  ·exact hG t x hx
theorem gInv_app (hgo:guardsOk ops=true) {D:Nat→Prop} (hG:GInv ops D s) {i:Nat} (hi:ops[i]?=some o) (hD:¬ D i) (hDj:∀ j b,guardAt ops i=some (j,b)→D j)
  (hch:(o.guard=none∧g=[]∨∃ j b t,o.guard=some (j,b)∧dstAt ops j=some t∧g=(t,b)::(s.env t).g)):GInv ops (fun j=>D j∨j=i) (s.app o.dst g e):=by
 intro t x hx
 have key:(∀ x∈(s.env t).g,∃ j,(D j∨j=i)∧dstAt ops j=some x.1∧∃ i b,guardAt ops i=some (j,b)):=fun x hx=>by
  obtain ⟨j,h1,h2⟩:=hG t x hx
  exact ⟨j,.inl h1,h2⟩
 unfold ASt.app at hx
 cases hd:o.dst with
 | none=>rw [hd] at hx;exact key x hx
 | some d =>
  rw [hd] at hx
  by_cases htd:t=d
  ·subst htd
   simp only [put_same] at hx
   obtain ⟨j,h1,h2⟩:=g_fresh hgo hG hi hD hDj hch x hx
   exact ⟨j,.inl h1,h2⟩
  ·simp only [put_other _ _ htd] at hx
   exact key x hx
theorem put_none (a:Act) (v:Value):a.put none v=a:=by cases a;rfl
theorem op_step (hcx:CxOk K.P cx) (hnt:cx.nt=K.nt) (hgo:guardsOk ops=true) (h:RelB K s a w β) {D:Nat→Prop} (hG:GInv ops D s) {i:Nat} (hi:ops[i]?=some o) (hD:¬ D i) (hDj:∀ j b,guardAt ops i=some (j,b)→D j)
  (hch:chain s ops o=some g) (he:eff cx s g o=some e) (hgw:g≠[]→e.wr=[]) (hdn:∀ d,o.dst=some d→d<cx.nt) (hfx:∀ d,o.dst=some d→K.fix d=none) (hob:∀ p,e.obl=some p→(∀ c,gCond s g=some c→c)→p) {next:Act→World→Prop}
  (hn:∀ a' w' β',RelB K (s.app o.dst g e) a' w' β'→next a' w') :
  if Region.wanted o (yielded ops a.tmps) then o.wpIn (FF K.P r) n K.P a w next Q else (∀ f,o.about K.P w a.eval=some f→(FF K.P r).fn f)∧next (a.put o.dst undef) w:=by
 obtain ⟨hw,hform⟩:=chain_fact h hch
 have hfr:=g_fresh hgo hG hi hD hDj hform
 have hfresh:∀ d,o.dst=some d→(∀ t,∀ x∈(s.env t).g,x.1≠d)∧∀ x∈g,x.1≠d:=by
  intro d hd
  refine ⟨dst_fresh hgo hG hi hD hd,?_⟩
  intro x hx hxd
  obtain ⟨j,hj,hdj,i',b,hi'⟩:=hfr x hx
  obtain ⟨_,t',ht',hu⟩:=guards_fact hgo hi'
  rw [hdj] at ht'
  cases ht'
  have:dstAt ops i=some x.1:=by unfold dstAt;rw [hi,hxd];exact hd
  exact hD (hu i this▸hj)
 by_cases hwt:Region.wanted o (yielded ops a.tmps)=true
 ·rw [if_pos hwt]
  have hg:=hw.1 hwt
  refine eff_sound hcx h hg he (fun p hp=>hob p hp (fun c hc=>hold_cond h hg (fun x hx=>hx) c hc)) ?_
  intro v w' β' h1 h2
  cases hd:o.dst with
  | none =>
   refine hn _ w' β' ?_
   rw [put_none]
   have:s.app o.dst g e=after s e.wr:=by rw [hd];rfl
   rw [this];exact h1
  | some d =>
   obtain ⟨f1,f2⟩:=hfresh d hd
   have:=h1.slot (d:=d) (v:=v) (e:=⟨g,e.av⟩) (by rw [←hnt];exact hdn d hd) (hfx d hd) f1 f2 ⟨fun _=>h2,fun hh=>absurd hg hh⟩
   refine hn _ w' β' ?_
   have ea:s.app o.dst g e={ (after s e.wr) with env:=Sx.put (after s e.wr).env d ⟨g,e.av⟩ }:=by rw [hd];rfl
   rw [ea];exact this
 ·rw [if_neg hwt]
  have hng:¬ Hold a g:=fun hg=>hwt (hw.2 hg)
  refine ⟨still_about hcx h (eff_split he).1 hng,?_⟩
  have hne:g≠[]:=fun e=>hng (by rw [e];intro x hx;cases hx)
  have hwr:=hgw hne
  cases hd:o.dst with
  | none =>
   refine hn _ w β ?_
   rw [put_none]
   have:s.app o.dst g e=s:=by unfold ASt.app;rw [hd,hwr];rfl
   rw [this];exact h
  | some d =>
   obtain ⟨f1,f2⟩:=hfresh d hd
   have:=h.slot (d:=d) (v:=undef) (e:=⟨g,e.av⟩) (by rw [←hnt];exact hdn d hd) (hfx d hd) f1 f2 ⟨fun hh=>absurd hh hng,fun _=>rfl⟩
   refine hn _ w β ?_
   have ea:s.app o.dst g e={ s with env:=Sx.put s.env d ⟨g,e.av⟩ }:=by unfold ASt.app;rw [hd,hwr];rfl
   rw [ea];exact this
theorem conj_all:∀ {l:List Prop} {q:Prop},conj l q→(∀ p∈l,p)∧q
 | [],q,h=>⟨fun p hp=>(by cases hp),h⟩
 | p::l,q,h=>by
  obtain ⟨h1,h2⟩:=conj_all h.2
  exact ⟨fun p' hp=>by
   rcases List.mem_cons.1 hp with rfl | hp
   ·exact h.1
   ·exact h1 p' hp,h2⟩
theorem runOps_cons {rest:List Oper} {R:Run} (h:runOps cx ops (o::rest) s=some R) :
  ∃ g e R',chain s ops o=some g∧eff cx s g o=some e∧(g≠[]→e.wr=[])∧(∀ d,o.dst=some d→d<cx.nt)∧runOps cx ops rest (s.app o.dst g e)=some R' ∧
   R.s=R'.s∧R.feet=⟨g.map (·.1),opIds cx s g o,e.wr.map (·.1)⟩::R'.feet∧(∀ p∈R'.obls,p∈R.obls) ∧
   ∀ p,e.obl=some p→(∀ q∈R.obls,q)→(∀ c,gCond s g=some c→c)→p:=by
 simp only [runOps] at h
 split at h
 ·cases h
 ·rename_i g hg
  split at h
  ·cases h
  ·rename_i e he
   cases hB:(gwOk g e.wr&&ntOk cx.nt o.dst) with
   | false=>rw [hB] at h;cases h
   | true =>
   rw [hB] at h
   simp only [cond_true] at h
   simp only [Bool.and_eq_true] at hB
   obtain ⟨k1,k2⟩:=hB
   have k1:g≠[]→e.wr=[]:=by
    intro hne
    cases hww:e.wr with
    | nil=>rfl
    | cons x l=>cases g with
     | nil=>exact absurd rfl hne
     | cons y m=>rw [hww] at k1;cases k1
   split at h
   ·cases h
   ·rename_i R' hR'
    cases h
    refine ⟨g,e,R',hg,he,k1,?_,hR',rfl,rfl,?_,?_⟩
    ·intro d hd
     rw [hd] at k2
     exact Nat.le_of_ble_eq_true k2
    ·intro p hp
     simp only
     split
     ·exact hp
     ·exact List.mem_cons_of_mem _ hp
     ·exact List.mem_cons_of_mem _ hp
    ·intro p hp hall hc
     simp only at hall
     rw [hp] at hall
     cases hgc:gCond s g with
     | none=>rw [hgc] at hall;exact hall _ List.mem_cons_self
     | some c=>rw [hgc] at hall;exact hall _ List.mem_cons_self (hc c hgc)
theorem RelB.bare (h:RelB K s a w β):RelB K s.bare a w β:=by
 have hcc:Compat s β s.bare β:=.of_obs _ rfl
 refine ⟨h.frame,h.mg,h.dis,fun o ob ho=>(h.ob o ob ho).next hcc (.refl _ _) fun _ _=>rfl,h.inj,h.rng,?_,h.size,h.defs,h.dnd,h.nod,h.pins,h.gh,h.fix,h.pos,h.sb⟩
 intro t
 simp only [ASt.bare]
 split
 ·exact ⟨fun hh=>((h.env t).1 hh).next hcc (.refl _ _),(h.env t).2⟩
 ·exact ⟨fun _=>trivial,fun hh=>absurd (fun x hx=>by cases hx) hh⟩
def FixO (K:Ctx) (ops:Array Oper):Prop:=∀ (i:Nat) (o:Oper) (d:Nat),ops[i]?=some o→o.dst=some d→K.fix d=none
theorem seq_sound (hcx:CxOk K.P cx) (hnt:cx.nt=K.nt) (hfx:FixO K ops) (hgo:guardsOk ops=true):∀ {l:List Oper} {k:Nat} {s:ASt} {R:Run} {a:Act} {w:World} {β:Nat→Loc},(∀ j,l[j]?=ops[k+j]?)→runOps cx ops l s=some R→(∀ p∈R.obls,p)→RelB K s a w β→GInv ops (fun j=>j<k) s →
  (∀ a' w' β',RelB K R.s a' w' β'→Q .normal a' w')→wpListIn (FF K.P r) n K.P ops Q l a w
 | [],k,s,R,a,w,β,_,hr,_,h,_,hQ=>by
  simp only [runOps,Option.some.injEq] at hr
  subst hr
  exact hQ a w β h
 | o::l,k,s,R,a,w,β,hl,hr,hall,h,hG,hQ=>by
  obtain ⟨g,e,R',h1,h2,h3,h4,h5,h6,_,h7,h8⟩:=runOps_cons hr
  have hk:ops[k]?=some o:=by simpa using (hl 0).symm
  have hDj:∀ j b,guardAt ops k=some (j,b)→j<k:=fun j b hj=>(guards_fact hgo hj).1
  have hform:=(chain_fact h h1).2
  have hG':=gInv_app (e:=e) hgo hG hk (Nat.lt_irrefl k) hDj hform
  refine op_step hcx hnt hgo h hG hk (Nat.lt_irrefl k) hDj h1 h2 h3 h4 (fun d hd=>hfx k o d hk hd) (fun p hp hc=>h8 p hp hall hc) ?_
  intro a' w' β' hrel
  refine seq_sound hcx hnt hfx hgo (k:=k+1) (fun j=>?_) h5 (fun p hp=>hall p (h7 p hp)) hrel ?_ (fun a'' w'' β'' hh=>hQ a'' w'' β'' (by rw [h6];exact hh))
  ·have:=hl (j+1)
   simp only [List.getElem?_cons_succ] at this
   rw [this];congr 1;omega
  ·intro t x hx
   obtain ⟨j,hj,rest⟩:=hG' t x hx
   exact ⟨j,by rcases hj with hj | hj<;>omega,rest⟩
theorem NoG.inv (h:NoG s) (D:Nat→Prop):GInv ops D s:=fun t x hx=>by rw [h t] at hx;cases hx
theorem region_seq (hcx:CxOk K.P cx) (hnt:cx.nt=K.nt) (hfx:FixO K ops) {id:Nat} {G:ASt→Prop} (hv:vcRegion cx ops false s G) (h:RelB K s a w β) (hn:NoG s)
  (hQ:∀ s' a' w' β',RelB K s' a' w' β'→NoG s'→G s'→Q .normal a' w'):(Code.region id ops false).wpIn (FF K.P r) n K.P Q a w:=by
 unfold vcRegion at hv
 split at hv
 ·exact hv.elim
 ·rename_i R hR
  cases hc:(guardsOk ops&&(!false||drawOk ops.size ops R.feet)) with
  | false=>rw [hc] at hv;exact hv.elim
  | true =>
   rw [hc] at hv
   simp only [Bool.and_eq_true] at hc
   obtain ⟨h1,h2⟩:=conj_all hv
   exact wpIn_region_list (seq_sound hcx hnt hfx hc.1 (k:=0) (fun j=>by simp) hR h1 h (hn.inv _) fun a' w' β' hh=>hQ _ a' w' β' hh.bare (NoG.bare _) h2)
end
end Go.Sx
/-
 The symbolic layer,part 20: what an operation looks at.
-/
namespace Go.Sx
section
variable {s s':ASt} {cx:Cx} {g:List (Nat × Bool)} {o:Oper}
theorem ids_ev (T:TypeId) (x:Operand):(ev cx s g T x).ids=(ev cx s g 0 x).ids:=by
 cases x with
 | tmp t=>rfl
 | const v =>
  have:∀ T,(constAV cx T v).ids=[]:=by
   intro T
   unfold constAV
   split
   ·rename_i k n;cases (decide (kMin k≤n)&&decide (n≤kMax k))<;>rfl
   ·rfl
   ·split<;>rfl
   ·split<;>rfl
   ·split<;>rfl
   ·rfl
  simp only [ev,this]
 | func f=>rfl
 | global _=>rfl
theorem ev_congr {T:TypeId} {x:Operand} (h:∀ t,x=.tmp t→s'.env t=s.env t):ev cx s' g T x=ev cx s g T x:=by
 cases x<;>simp only [ev]
 rename_i t
 rw [h t rfl]
def Same (s s':ASt) (l:List Nat):Prop:=∀ x∈l,s'.obs x=s.obs x
theorem Same.mem {l m:List Nat} (h:Same s s' l) (hm:∀ x∈m,x∈l):Same s s' m:=fun x hx=>h x (hm x hx)
theorem clo_ids (f:Nat) (c:List SV):(AV.clo f c).ids=c.flatMap svIds:=rfl
theorem sv_ids (v:SV):(AV.s v).ids=svIds v:=rfl
theorem mem_behind (o:Nat):o∈behind s o:=by
 unfold behind
 split<;>simp
theorem Same.behind {l:List Nat} (h:Same s s' (l.flatMap (Sx.behind s))):Same s s' l:=h.mem fun x hx=>List.mem_flatMap.2 ⟨x,hx,mem_behind x⟩
theorem SV.dv_congr {v:SV} (h:Same s s' (svIds v)):v.dv s'=v.dv s:=by
 cases v with
 | ptr o p=>simp only [SV.dv,h o (by simp [svIds])]
 | os o=>simp only [SV.dv,h o (by simp [svIds])]
 | mp o=>simp only [SV.dv,h o (by simp [svIds])]
 | _=>rfl
theorem SV.open_congr {v:SV} (h:Same s s' (svIds v)):v.open? s'=v.open? s:=by
 cases v with
 | ptr o p=>simp only [SV.open?,h o (by simp [svIds])]
 | os o=>simp only [SV.open?,h o (by simp [svIds])]
 | mp o=>simp only [SV.open?,h o (by simp [svIds])]
 | _=>rfl
theorem optAll_congr {α β:Type} {f f':α→Option β}:∀ {l:List α},(∀ x∈l,f' x=f x)→optAll f' l=optAll f l
 | [],_=>rfl
 | a::l,h=>by
  simp only [optAll,h a List.mem_cons_self,optAll_congr (l:=l) fun x hx=>h x (List.mem_cons_of_mem _ hx)]
theorem flatMap_congr' {α β:Type} {f f':α→List β}:∀ {l:List α},(∀ x∈l,f' x=f x)→l.flatMap f'=l.flatMap f
 | [],_=>rfl
 | a::l,h=>by
  simp only [List.flatMap_cons,h a List.mem_cons_self,flatMap_congr' (l:=l) fun x hx=>h x (List.mem_cons_of_mem _ hx)]
theorem mapOf_congr {v:AV} (h:Same s s' v.ids):mapOf s' v=mapOf s v:=by
 cases v with
 | s v =>
  cases v with
  | mp o=>simp only [mapOf,h o (by simp [AV.ids,svIds])]
  | d t x=>cases t<;>rfl
  | _=>rfl
 | _=>rfl
theorem AV.dv_congr {v:AV} (h:Same s s' v.ids):v.dv cx s'=v.dv cx s:=by
 cases v with
 | un=>rfl
 | yl _=>rfl
 | mv _ _ _=>rfl
 | bm _ _=>rfl
 | ag _ _ _=>rfl
 | ex _=>rfl
 | sn _ _ _ _=>rfl
 | rqe _ _ _=>rfl
 | rie _ _ _ _ _=>rfl
 | ri o g i=>simp only [AV.dv,h o (by simp [AV.ids])]
 | tup l=>rfl
 | s v=>exact SV.dv_congr (by rw [←sv_ids];exact h)
 | clo f c =>
  rw [clo_ids] at h
  simp only [AV.dv,cloDv,cloDvC,iconDv]
  rw [optAll_congr (f:=SV.dv s) (f':=SV.dv s') fun v hv=>SV.dv_congr (h.mem fun x hx=>List.mem_flatMap.2 ⟨v,hv,hx⟩)]
theorem AV.open_congr {v:AV} (h:Same s s' v.ids):v.open? s'=v.open? s:=by
 cases v with
 | un=>rfl
 | yl _=>rfl
 | mv _ _ _=>rfl
 | bm _ _=>rfl
 | ag _ _ _=>rfl
 | ex _=>rfl
 | sn _ _ _ _=>rfl
 | rqe _ _ _=>rfl
 | rie _ _ _ _ _=>rfl
 | ri o g i=>show rrOpen o (s'.obs o)=rrOpen o (s.obs o);rw [h o (by simp [AV.ids])]
 | tup l=>rfl
 | s v=>exact SV.open_congr (by rw [←sv_ids];exact h)
 | clo f c =>
  rw [clo_ids] at h
  simp only [AV.open?]
  exact flatMap_congr' fun v hv=>SV.open_congr (h.mem fun x hx=>List.mem_flatMap.2 ⟨v,hv,hx⟩)
theorem rrOpen_id {o x:Nat} {r:Option (Option Ob)} (hx:x∈rrOpen o r):x=o:=by
 unfold rrOpen at hx
 split at hx
 ·rename_i f _ _ _ _ _
  cases f with
  | true=>cases hx
  | false=>exact List.mem_singleton.1 hx
 ·cases hx
theorem openRr_congr {v:AV} (h:Same s s' v.ids):openRr s' v=openRr s v:=by
 unfold openRr
 split
 ·rename_i o
  rw [h o (by simp [AV.ids,svIds])]
 ·rfl
theorem AV.dvA_congr {v:AV} (h:Same s s' v.ids):v.dvA cx s'=v.dvA cx s:=by
 unfold AV.dvA
 rw [openRr_congr h,AV.dv_congr h]
theorem SV.open_ids {v:SV}:∀ x∈v.open? s,x∈svIds v:=by
 intro x hx
 cases v with
 | ptr o p=>simp only [SV.open?] at hx;split at hx<;>simp_all [svIds]
 | os o =>
  simp only [SV.open?] at hx
  split at hx
  ·simp_all [svIds]
  ·simp_all [svIds]
  ·rw [rrOpen_id hx];simp [svIds]
 | mp o=>simp only [SV.open?] at hx;split at hx<;>simp_all [svIds]
 | d _ _=>cases hx
 | nl _ _=>cases hx
theorem AV.open_ids {v:AV}:∀ x∈v.open? s,x∈v.ids:=by
 intro x hx
 cases v with
 | un=>cases hx
 | yl _=>cases hx
 | mv _ _ _=>cases hx
 | bm _ _=>cases hx
 | ag _ _ _=>cases hx
 | ex _=>cases hx
 | sn _ _ _ _=>cases hx
 | rqe _ _ _=>cases hx
 | rie _ _ _ _ _=>cases hx
 | ri o _ _=>rw [rrOpen_id hx];simp [AV.ids]
 | tup l=>cases hx
 | s v=>rw [sv_ids];exact SV.open_ids x hx
 | clo f c =>
  rw [clo_ids]
  obtain ⟨v,hv,hx⟩:=List.mem_flatMap.1 hx
  exact List.mem_flatMap.2 ⟨v,hv,SV.open_ids x hx⟩
theorem freeze_congr:∀ {l:List Nat},Same s s' l→freeze s' l=freeze s l
 | [],_=>rfl
 | x::l,h=>by
  simp only [freeze,h x List.mem_cons_self,freeze_congr (l:=l) (h.mem fun y hy=>List.mem_cons_of_mem _ hy)]
theorem dvs_congr {l:List AV} (h:Same s s' (l.flatMap AV.ids)):optAll (AV.dv cx s') l=optAll (AV.dv cx s) l :=
 optAll_congr fun v hv=>AV.dv_congr (h.mem fun x hx=>List.mem_flatMap.2 ⟨v,hv,hx⟩)
theorem opens_congr {l:List AV} (h:Same s s' (l.flatMap AV.ids)):freeze s' (l.flatMap (AV.open? s'))=freeze s (l.flatMap (AV.open? s)):=by
 rw [flatMap_congr' (f:=AV.open? s) (f':=AV.open? s') fun v hv=>AV.open_congr (h.mem fun x hx=>List.mem_flatMap.2 ⟨v,hv,hx⟩)]
 refine freeze_congr (h.mem fun x hx=>?_)
 obtain ⟨v,hv,hx⟩:=List.mem_flatMap.1 hx
 exact List.mem_flatMap.2 ⟨v,hv,AV.open_ids x hx⟩
theorem solid_congr {l:List AV} (h:Same s s' (l.flatMap AV.ids)):solid cx s' l=solid cx s l:=by
 unfold solid
 rw [dvs_congr h,opens_congr h]
theorem one_congr {v:AV} (h:Same s s' v.ids):v.one s'=v.one s:=by
 cases v with
 | s v=>cases v<;>simp only [AV.one,live]<;>first | rfl | rw [h _ (by simp [AV.ids,svIds])]
 | _=>rfl
theorem SV.dvB_congr {v:SV} (h:Same s s' ((svIds v).flatMap (Sx.behind s))):v.dvB s'=v.dvB s:=by
 have h0:Same s s' (svIds v):=h.behind
 unfold SV.dvB
 split
 ·rename_i o
  rw [h0 o (by simp [svIds])]
  split
  ·rename_i t x hs ho
   have hp:optAll (SV.dv s') (hs.map (·.2))=optAll (SV.dv s) (hs.map (·.2)):=optAll_congr fun y hy=>SV.dv_congr (h.mem fun z hz=>by
    obtain ⟨k,hk,rfl⟩:=List.mem_map.1 hy
    exact List.mem_flatMap.2 ⟨o,by simp [svIds],by simp only [Sx.behind,ho];exact List.mem_cons_of_mem _ (List.mem_flatMap.2 ⟨k,hk,hz⟩)⟩)
   rw [hp]
  ·exact SV.dv_congr h0
 ·exact SV.dv_congr h0
theorem AV.dvB_congr {v:AV} (h:Same s s' (v.ids.flatMap (Sx.behind s))):v.dvB cx s'=v.dvB cx s:=by
 unfold AV.dvB
 split
 ·exact SV.dvB_congr h
 ·rename_i t x hs
  have hp:optAll (SV.dv s') (hs.map (·.2))=optAll (SV.dv s) (hs.map (·.2)):=optAll_congr fun y hy=>SV.dv_congr (h.behind.mem fun z hz=>by
   obtain ⟨k,hk,rfl⟩:=List.mem_map.1 hy
   exact List.mem_flatMap.2 ⟨k,hk,hz⟩)
  rw [hp]
 ·rename_i f c
  have hc:optAll (SV.dvB s') c=optAll (SV.dvB s) c:=optAll_congr fun y hy=>SV.dvB_congr (h.mem fun z hz=>by
   obtain ⟨o,ho,hz⟩:=List.mem_flatMap.1 hz
   exact List.mem_flatMap.2 ⟨o,List.mem_flatMap.2 ⟨y,hy,ho⟩,hz⟩)
  have hi:AV.dv cx s' (.clo f c)=AV.dv cx s (.clo f c):=AV.dv_congr (v:=.clo f c) h.behind
  simp only [AV.dv] at hi
  split
  ·rename_i k hk
   rw [hk] at hi
   exact hi
  ·rw [hc]
 ·exact AV.dv_congr h.behind
theorem flat_behind {l:List AV} (h:Same s s' ((l.flatMap AV.ids).flatMap (Sx.behind s))) {v:AV} (hv:v∈l):Same s s' (v.ids.flatMap (Sx.behind s)):=h.mem fun x hx=>by
 obtain ⟨o,ho,hx⟩:=List.mem_flatMap.1 hx
 exact List.mem_flatMap.2 ⟨o,List.mem_flatMap.2 ⟨v,hv,ho⟩,hx⟩
theorem dvsB_congr {l:List AV} (h:Same s s' ((l.flatMap AV.ids).flatMap (Sx.behind s))):optAll (AV.dvB cx s') l=optAll (AV.dvB cx s) l :=
 optAll_congr fun _ hv=>AV.dvB_congr (flat_behind h hv)
theorem callEff_congr {f:Nat} {l:List AV} (h:Same s s' ((l.flatMap AV.ids).flatMap (Sx.behind s))):callEff cx s' f l=callEff cx s f l:=by
 unfold callEff
 split
 ·rfl
 ·rename_i k _
  simp only
  rw [opens_congr h.behind]
  cases k.res.all Ty.flat with
  | true=>simp only [cond_true];rw [dvsB_congr h]
  | false=>simp only [cond_false];rw [dvs_congr h.behind]
theorem matchK_congr {f:Nat} {caps:List SV}:∀ {args:List AK} {i:Nat} {as:List AV},(∀ x∈as,Same s s' (x.ids.flatMap (behind s)))→matchK cx s' f caps args i as=matchK cx s f caps args i as
 | [],_,[],_=>rfl
 | [],_,_::_,_=>rfl
 | _::_,_,[],_=>rfl
 | k::r,i,x::xs,h=>by
  have ih:=matchK_congr (f:=f) (caps:=caps) (args:=r) (i:=i+1) (as:=xs) fun y hy=>h y (List.mem_cons_of_mem _ hy)
  have hx:=h x List.mem_cons_self
  simp only [matchK,ih]
  split
  ·rfl
  ·cases k with
   | d t=>simp only [AV.dv_congr (v:=x) hx.behind]
   | row e t =>
    simp only
    split
    ·rfl
    ·rename_i o
     rw [hx.behind o (by simp [AV.ids,svIds])]
    ·rfl
   | box t =>
    simp only
    split
    ·rename_i o
     rw [hx.behind o (by simp [AV.ids,svIds])]
    ·rfl
   | mem =>
    simp only
    split
    ·rename_i o
     rw [hx.behind o (by simp [AV.ids,svIds])]
     split
     ·rename_i q ho
      rw [hx q (List.mem_flatMap.2 ⟨o,by simp [AV.ids,svIds],by unfold behind;rw [ho];simp [AV.ids,svIds]⟩)]
     ·rfl
    ·rfl
   | self =>
    simp only
    split
    ·rename_i o
     rw [hx.behind o (by simp [AV.ids,svIds])]
    ·rfl
   | via t =>
    simp only
    split
    ·rename_i o
     rw [hx.behind o (by simp [AV.ids,svIds])]
     split
     ·rename_i q ho
      rw [hx q (List.mem_flatMap.2 ⟨o,by simp [AV.ids,svIds],by unfold behind;rw [ho];simp [AV.ids,svIds]⟩)]
     ·rfl
    ·rfl
theorem callLEff_congr {d f:Nat} {k:LCon} {l:List AV} {caps:List SV} (h:Same s s' (d::((l++caps.map AV.s).flatMap AV.ids).flatMap (behind s))):callLEff cx s' d f k l caps=callLEff cx s d f k l caps:=by
 have hall:∀ x∈l++caps.map AV.s,Same s s' (x.ids.flatMap (behind s)):=fun x hx=>h.mem fun y hy=>by
  obtain ⟨o,ho,hy⟩:=List.mem_flatMap.1 hy
  exact List.mem_cons_of_mem _ (List.mem_flatMap.2 ⟨o,List.mem_flatMap.2 ⟨x,hx,ho⟩,hy⟩)
 have hsol:∀ {args:List AK} {i:Nat} {as:List AV} {m:Mt},matchK cx s f caps args i as=some m→∀ x∈m.sol,x∈as:=by
  intro args
  induction args with
  | nil=>intro i as m hm x hx;cases as with
   | nil=>simp only [matchK,Option.some.injEq] at hm;subst hm;cases hx
   | cons _ _=>cases hm
  | cons k r ih =>
   intro i as m hm x hx
   cases as with
   | nil=>cases hm
   | cons y as =>
    simp only [matchK] at hm
    split at hm
    ·cases hm
    ·rename_i m' hm'
     have:=ih hm'
     cases k<;>simp only at hm
     case d t =>
      split at hm
      ·cases hm
       rcases List.mem_cons.1 hx with rfl | hx
       ·exact List.mem_cons_self
       ·exact List.mem_cons_of_mem _ (this x hx)
      ·cases hm
     case row e t =>
      split at hm
      ·rw [Bool.cond_eq_ite] at hm;split at hm
       ·cases hm;exact List.mem_cons_of_mem _ (this x hx)
       ·cases hm
      ·split at hm
       ·rw [Bool.cond_eq_ite] at hm;split at hm
        ·cases hm;exact List.mem_cons_of_mem _ (this x hx)
        ·cases hm
       ·cases hm
      ·cases hm
     case box t =>
      split at hm
      ·split at hm
       ·rw [Bool.cond_eq_ite] at hm;split at hm
        ·cases hm;exact List.mem_cons_of_mem _ (this x hx)
        ·cases hm
       ·cases hm
      ·cases hm
     case mem =>
      split at hm
      ·split at hm
       ·split at hm
        ·cases hm;exact List.mem_cons_of_mem _ (this x hx)
        ·cases hm
       ·cases hm
      ·cases hm
     case self =>
      split at hm
      ·split at hm
       ·split at hm
        ·cases hm;exact List.mem_cons_of_mem _ (this x hx)
        ·cases hm
       ·cases hm
      ·cases hm
     case via t =>
      split at hm
      ·split at hm
       ·split at hm
        ·rw [Bool.cond_eq_ite] at hm;split at hm
         ·cases hm;exact List.mem_cons_of_mem _ (this x hx)
         ·cases hm
        ·cases hm
       ·cases hm
      ·cases hm
 unfold callLEff
 rw [matchK_congr hall]
 split
 ·rfl
 ·rename_i m hm
  have hsame:Same s s' (m.sol.flatMap AV.ids):=fun o ho=>by
   obtain ⟨x,hx,ho⟩:=List.mem_flatMap.1 ho
   exact (hall x (hsol hm x hx)).behind o ho
  have e1:m.sol.flatMap (AV.open? s')=m.sol.flatMap (AV.open? s):=flatMap_congr' fun v hv=>AV.open_congr (hsame.mem fun x hx=>List.mem_flatMap.2 ⟨v,hv,hx⟩)
  have e2:=opens_congr hsame
  rw [e1] at e2
  rw [e1,e2,h d List.mem_cons_self]
theorem callNEff_congr {d:Nat} {k:NCon} {l:List AV} (h:Same s s' ((l.flatMap AV.ids).flatMap (Sx.behind s))) (hd:s'.obs d=s.obs d):callNEff cx s' d k l=callNEff cx s d k l:=by
 unfold callNEff
 have hall:=fun v hv=>flat_behind (l:=l) h (v:=v) hv
 have hsame:Same s s' (l.flatMap AV.ids):=Same.behind h
 have e1:l.flatMap (AV.open? s')=l.flatMap (AV.open? s):=flatMap_congr' fun v hv=>AV.open_congr (hsame.mem fun x hx=>List.mem_flatMap.2 ⟨v,hv,hx⟩)
 have e2:=opens_congr hsame
 rw [e1] at e2
 have e3:optAll (cond (flatBut k.pos k.res||noneL l) (AV.dvB cx s') (AV.dv cx s')) l=optAll (cond (flatBut k.pos k.res||noneL l) (AV.dvB cx s) (AV.dv cx s)) l:=by
  cases flatBut k.pos k.res||noneL l with
  | true=>exact dvsB_congr h
  | false=>exact dvs_congr hsame
 simp only [e1,e2,e3,hd]
theorem caps_src {α:Type} {E:α→AV}:∀ {l:List α} {c:List SV} {v:SV},All2 (fun x y=>(match E x with | .s v=>some v | _=>none)=some y) l c→v∈c→∃ z∈l,E z=.s v
 | [],[],_,_,hv=>by cases hv
 | [],_::_,_,h,_=>h.elim
 | _::_,[],_,h,_=>h.elim
 | z::l,x::c,v,h,hv=>by
  rcases List.mem_cons.1 hv with rfl | hv
  ·refine ⟨z,List.mem_cons_self,?_⟩
   have h1:=h.1
   dsimp only at h1
   cases hq:E z with
   | s v'=>rw [hq] at h1;cases h1;rfl
   | _=>rw [hq] at h1;cases h1
  ·obtain ⟨z',h1,h2⟩:=caps_src h.2 hv
   exact ⟨z',List.mem_cons_of_mem _ h1,h2⟩
theorem callVal_congr {d:Nat} {f:AV} {l:List AV} (h:Same s s' (d::(f.ids++l.flatMap AV.ids).flatMap (behind s))):callVal cx s' d f l=callVal cx s d f l:=by
 have h0:Same s s' (f.ids++l.flatMap AV.ids):=Same.behind (h.mem fun x hx=>List.mem_cons_of_mem _ hx)
 unfold callVal
 split
 ·rename_i g₁ c
  have hcl:∀ x,x∈(l++c.map AV.s).flatMap AV.ids→x∈(AV.clo g₁ c).ids++l.flatMap AV.ids:=fun x hx=>by
   simp only [List.flatMap_append,List.mem_append] at hx ⊢
   rcases hx with hx | hx
   ·exact .inr hx
   ·left
    rw [clo_ids]
    obtain ⟨v,hv,hx⟩:=List.mem_flatMap.1 hx
    obtain ⟨u,hu,rfl⟩:=List.mem_map.1 hv
    exact List.mem_flatMap.2 ⟨u,hu,by rw [←sv_ids];exact hx⟩
  split
  ·refine callLEff_congr (h.mem fun x hx=>?_)
   rcases List.mem_cons.1 hx with rfl | hx
   ·exact List.mem_cons_self
   ·obtain ⟨o,ho,hx⟩:=List.mem_flatMap.1 hx
    exact List.mem_cons_of_mem _ (List.mem_flatMap.2 ⟨o,hcl o ho,hx⟩)
  ·have hall:Same s s' (((l++c.map AV.s).flatMap AV.ids).flatMap (Sx.behind s)):=h.mem fun x hx=>by
    obtain ⟨o,ho,hx⟩:=List.mem_flatMap.1 hx
    exact List.mem_cons_of_mem _ (List.mem_flatMap.2 ⟨o,hcl o ho,hx⟩)
   split
   ·exact callNEff_congr hall (h d List.mem_cons_self)
   ·exact callEff_congr hall
 ·rename_i g₁ v
  split
  ·refine callLEff_congr (h.mem fun x hx=>?_)
   rcases List.mem_cons.1 hx with rfl | hx
   ·exact List.mem_cons_self
   ·obtain ⟨o,ho,hx⟩:=List.mem_flatMap.1 hx
    refine List.mem_cons_of_mem _ (List.mem_flatMap.2 ⟨o,?_,hx⟩)
    simpa [AV.ids] using ho
  ·rfl
 ·split
  ·rename_i x
   rw [AV.dv_congr (v:=x) (h0.mem fun y hy=>by simp [hy])]
  ·rfl
 ·split
  ·rename_i x y
   rw [AV.dv_congr (v:=x) (h0.mem fun z hz=>by simp [hz]),AV.dv_congr (v:=y) (h0.mem fun z hz=>by simp [hz])]
  ·rfl
 ·split
  ·rename_i x y z
   rw [AV.dv_congr (v:=x) (h0.mem fun z hz=>by simp [hz]),AV.dv_congr (v:=y) (h0.mem fun z hz=>by simp [hz]),AV.dv_congr (v:=z) (h0.mem fun z hz=>by simp [hz])]
  ·rfl
 ·rfl
theorem heldOk_congr {v:SV} {t:Ty} (h:Same s s' (svIds v)):heldOk s' v t=heldOk s v t:=by
 unfold heldOk
 split
 ·rw [h _ (by simp [svIds])]
 ·rw [h _ (by simp [svIds])]
 ·rw [h _ (by simp [svIds])]
 ·rfl
 ·rfl
theorem findH_mem {t:Ty} {q:List Stp} {v:SV}:∀ {hs:List (List Stp × SV)},findH t q hs=some v→∃ h∈hs,h.2=v
 | [],h=>by cases h
 | x::hs,h=>by
  simp only [findH] at h
  cases hp:pathEq q x.1 with
  | true=>rw [hp,cond_true] at h;cases h;exact ⟨x,List.mem_cons_self,rfl⟩
  | false =>
   rw [hp,cond_false] at h
   cases ha:apart t q x.1 with
   | true=>rw [ha,cond_true] at h;obtain ⟨y,h1,h2⟩:=findH_mem h;exact ⟨y,List.mem_cons_of_mem _ h1,h2⟩
   | false=>rw [ha,cond_false] at h;cases h
theorem loadB_congr {T:TypeId} {o:Nat} {t:Ty} {y:t.D} {hs:List (List Stp × SV)} {q:List Stp} (h:Same s s' (hs.flatMap fun h=>svIds h.2)):loadB cx s' T o t y hs q=loadB cx s T o t y hs q:=by
 unfold loadB
 split
 ·rw [solid_congr (s:=s) (s':=s') (l:=hs.map fun h=>.s h.2) (h.mem fun z hz=>by
   obtain ⟨v,hv,hz⟩:=List.mem_flatMap.1 hz
   obtain ⟨x,hx,rfl⟩:=List.mem_map.1 hv
   exact List.mem_flatMap.2 ⟨x,hx,hz⟩)]
 ·split
  ·rfl
  ·split
   ·rename_i sv hsv
    obtain ⟨x,hx,rfl⟩:=findH_mem hsv
    rw [heldOk_congr (h.mem fun z hz=>List.mem_flatMap.2 ⟨x,hx,hz⟩)]
   ·rfl
theorem isHeld_congr {t:Ty} {k:Nat} {v:AV} (h:Same s s' v.ids):isHeld s' t k v=isHeld s t k v:=by
 unfold isHeld
 split
 ·split
  ·split
   ·rw [heldOk_congr h]
   ·rfl
  ·rfl
 ·rfl
theorem dataOf_congr {t:Ty}:∀ {l:List (Nat × AV)},Same s s' (l.flatMap fun p=>p.2.ids)→dataOf s' t l=dataOf s t l
 | [],_=>rfl
 | (k,v)::r,h=>by
  simp only [dataOf]
  rw [isHeld_congr (h.mem fun z hz=>List.mem_flatMap.2 ⟨(k,v),List.mem_cons_self,hz⟩),dataOf_congr (h.mem fun z hz=>by
   obtain ⟨p,hp,hz⟩:=List.mem_flatMap.1 hz
   exact List.mem_flatMap.2 ⟨p,List.mem_cons_of_mem _ hp,hz⟩)]
theorem putAg_congr {t:Ty}:∀ {l:List (Nat × AV)} {x:t.D} {hs:List (List Stp × SV)} {ws:List Dv},Same s s' (l.flatMap fun p=>p.2.ids)→putAg s' t x hs l ws=putAg s t x hs l ws
 | [],_,_,[],_=>rfl
 | [],_,_,_::_,_=>rfl
 | (k,v)::r,x,hs,ws,h=>by
  have hr:Same s s' (r.flatMap fun p=>p.2.ids):=h.mem fun z hz=>by
   obtain ⟨p,hp,hz⟩:=List.mem_flatMap.1 hz
   exact List.mem_flatMap.2 ⟨p,List.mem_cons_of_mem _ hp,hz⟩
  simp only [putAg]
  rw [isHeld_congr (h.mem fun z hz=>List.mem_flatMap.2 ⟨(k,v),List.mem_cons_self,hz⟩)]
  cases partPath t k with
  | none=>rfl
  | some q =>
   simp only
   cases isHeld s t k v with
   | some sv=>simp only;rw [putAg_congr hr]
   | none =>
    simp only
    cases ws with
    | nil=>rfl
    | cons w ws =>
     simp only
     cases setP t x q w with
     | none=>rfl
     | some y=>simp only;rw [putAg_congr hr]
theorem dataOf_ids {t:Ty}:∀ {l:List (Nat × AV)} {z:Nat},z∈(dataOf s t l).flatMap AV.ids→z∈l.flatMap fun p=>p.2.ids
 | [],_,h=>by cases h
 | (k,v)::r,z,h=>by
  simp only [dataOf] at h
  simp only [List.flatMap_cons,List.mem_append]
  cases hh:isHeld s t k v with
  | some _=>rw [hh] at h;exact .inr (dataOf_ids h)
  | none =>
   rw [hh] at h
   simp only [List.flatMap_cons,List.mem_append] at h
   exact h.imp id dataOf_ids
theorem buildAg_congr {d:Nat} {T:TypeId} {l:List (Nat × AV)} (h:Same s s' (l.flatMap fun p=>p.2.ids)):buildAg cx s' d T l=buildAg cx s d T l:=by
 unfold buildAg
 cases zeroOf cx T with
 | none=>rfl
 | some v =>
  obtain ⟨t,z⟩:=v
  simp only
  rw [dataOf_congr h,solid_congr (l:=dataOf s t l) (h.mem fun z hz=>dataOf_ids hz)]
  simp only [putAg_congr h]
theorem loadEff_congr {T:TypeId} {x:AV} (h:Same s s' (x.ids.flatMap (behind s))):loadEff cx s' T x=loadEff cx s T x:=by
 unfold loadEff
 split
 ·rfl
 ·rename_i o q
  rw [h.behind o (by simp [AV.ids,svIds])]
  split<;>try rfl
  rename_i t y hs ho
  exact loadB_congr (h.mem fun z hz=>List.mem_flatMap.2 ⟨o,by simp [AV.ids,svIds],by simp only [Sx.behind,ho];exact List.mem_cons_of_mem _ hz⟩)
 ·rename_i o i t
  rw [h.behind o (by simp [AV.ids])]
 ·rfl
theorem loadIds_self {x:AV} (h:Same s s' (loadIds s x)):Same s s' x.ids:=by
 unfold loadIds at h
 split at h
 ·rename_i o y q
  refine h.mem fun z hz=>?_
  have hz:z=o:=by simpa [AV.ids,svIds] using hz
  subst hz
  split
  ·exact List.mem_cons_self
  ·exact mem_behind z
 ·exact h.behind
theorem loadEff_congr' {T:TypeId} {x:AV} (h:Same s s' (loadIds s x)):loadEff cx s' T x=loadEff cx s T x:=by
 have hs:=loadIds_self h
 unfold loadIds at h
 split at h
 ·rename_i o y q
  split at h
  ·rename_i t z hs' ho
   have ho':s'.obs o=s.obs o:=hs o (by simp [AV.ids,svIds])
   unfold loadEff
   simp only [ho',ho]
   unfold loadB
   simp only [show wholeB (y::q) hs'=false from rfl]
   split
   ·rfl
   ·split
    ·rename_i sv hsv
     rw [heldOk_congr (h.mem fun z hz=>by rw [hsv];exact List.mem_cons_of_mem _ hz)]
    ·rfl
  ·rename_i hn
   refine loadEff_congr fun z hz=>h z ?_
   simpa [AV.ids,svIds] using hz
 ·exact loadEff_congr h
theorem holdOne_congr {T:TypeId} {o:Nat} {q:List Stp} {t:Ty} {y:t.D} {hs:List (List Stp × SV)} {sv:SV} (h:Same s s' (svIds sv)):holdOne cx s' T o q t y hs sv=holdOne cx s T o q t y hs sv:=by
 unfold holdOne
 split
 ·rw [heldOk_congr (v:=sv) h]
 ·rfl
theorem snWr_congr {r n d:Nat} {t:Ty} (h:Same s s' [r,d]):snWr s' r n d t=snWr s r n d t:=by
 unfold snWr
 rw [h r (by simp),h d (by simp)]
theorem holdEff_congr {T:TypeId} {o:Nat} {q:List Stp} {t:Ty} {y:t.D} {hs:List (List Stp × SV)} {v:AV} (h:Same s s' v.ids):holdEff cx s' T o q t y hs v=holdEff cx s T o q t y hs v:=by
 unfold holdEff
 split
 ·exact holdOne_congr h
 ·rename_i r n d tr
  rw [snWr_congr h]
  split
  ·rename_i wr hw
   have hS:Same (aftW s wr) (aftW s' wr) (svIds (.os d)):=by
    obtain ⟨nob,rfl⟩:=snWr_form hw
    intro x hx
    simp only [svIds,List.mem_singleton] at hx
    subst hx
    show put (put s'.obs x _) r _ x=put (put s.obs x _) r _ x
    by_cases hxr:x=r
    ·rw [hxr,put_same,put_same]
    ·rw [put_other _ _ hxr,put_other _ _ hxr,put_same,put_same]
   rw [holdOne_congr hS]
  ·rfl
 ·rfl
theorem storeB_congr {T:TypeId} {o:Nat} {t:Ty} {y:t.D} {hs:List (List Stp × SV)} {q:List Stp} {v:AV} (h:Same s s' v.ids):storeB cx s' T o t y hs q v=storeB cx s T o t y hs q v:=by
 unfold storeB
 rw [holdEff_congr h,solid_congr (s:=s) (s':=s') (l:=[v]) (h.mem fun z hz=>by simpa using hz)]
theorem storeEff_congr {T:TypeId} {x v:AV} (h:Same s s' (x.ids++v.ids)):storeEff cx s' T x v=storeEff cx s T x v:=by
 unfold storeEff
 split
 ·rename_i o q
  have hv:Same s s' v.ids:=h.mem fun y hy=>by simp [hy]
  rw [h o (by simp [AV.ids,svIds]),one_congr (v:=v) (h.mem fun y hy=>by simp [hy]),solid_congr (l:=[v]) (h.mem fun y hy=>by simp at hy;simp [hy])]
  split<;>try rfl
  ·rw [holdEff_congr hv]
  ·exact storeB_congr hv
 ·rfl
theorem nilEff_congr {x:AV} (h:Same s s' x.ids):nilEff s' x=nilEff s x:=by
 unfold nilEff
 split
 ·rfl
 ·rename_i o p
  rw [h o (by simp [AV.ids,svIds])]
 ·rfl
 ·rfl
 ·rfl
theorem addrField_congr {x:AV} {k:Nat} {t:Option Ty} (h:Same s s' x.ids):addrField s' x k t=addrField s x k t:=by
 unfold addrField
 split
 ·split
  ·split
   ·rfl
   ·rename_i o p
    rw [h o (by simp [AV.ids,svIds])]
   ·rfl
  ·rfl
 ·rfl
theorem addrIndex_congr {T:TypeId} {x:AV} {i:Int} (h:Same s s' x.ids):addrIndex cx s' T x i=addrIndex cx s T x i:=by
 unfold addrIndex
 split
 ·split
  ·rename_i o
   rw [h o (by simp [AV.ids,svIds])]
  ·rename_i o _ _
   rw [h o (by simp [AV.ids])]
  ·rfl
  ·rfl
 ·split
  ·rename_i o q
   rw [h o (by simp [AV.ids,svIds])]
  ·rfl
  ·rfl
 ·rfl
theorem sliceEff_congr {T:TypeId} {x:AV} {lo hi:Option Int} (h:Same s s' x.ids):sliceEff cx s' T x lo hi=sliceEff cx s T x lo hi:=by
 unfold sliceEff
 rw [solid_congr (l:=[x]) (h.mem fun y hy=>by simpa using hy)]
theorem appendEff_congr {d T:Nat} {x y:AV} (h:Same s s' (d::(x.ids++y.ids))):appendEff cx s' d T x y=appendEff cx s d T x y:=by
 unfold appendEff
 rw [AV.dvA_congr (v:=y) (h.mem fun z hz=>by simp [hz]),h d (by simp)]
 split
 ·split
  ·split
   ·rfl
   ·split
    ·rfl
    ·rename_i o
     rw [h o (by simp [AV.ids,svIds])]
    ·rfl
  ·rfl
 ·rfl
theorem appendQ_congr {d T:Nat} {x y:AV} (h:Same s s' (d::(x.ids++y.ids))):appendQ cx s' d T x y=appendQ cx s d T x y:=by
 unfold appendQ
 rw [AV.dvA_congr (v:=y) (h.mem fun z hz=>by simp [hz]),h d (by simp)]
 split
 ·split
  ·split
   ·rfl
   ·split
    ·rfl
    ·rename_i o
     rw [h o (by simp [AV.ids,svIds])]
    ·rfl
  ·rfl
 ·rfl
theorem sliceQ_congr {d:Nat} {tt:Ty} {x:AV} {lo:Int} (h:Same s s' (d::x.ids)):sliceQ s' d tt x lo=sliceQ s d tt x lo:=by
 unfold sliceQ
 split
 ·rename_i o
  rw [h o (by simp [AV.ids,svIds]),h d (by simp)]
 ·rfl
theorem builtinEff_congr {d:Nat} {b:Builtin} {ts:List TypeId} {l:List AV} (h:Same s s' (d::l.flatMap AV.ids)):builtinEff cx s' d b ts l=builtinEff cx s d b ts l:=by
 unfold builtinEff
 split
 ·rename_i x
  rw [AV.dv_congr (v:=x) (h.mem fun z hz=>by simp [hz])]
 ·rfl
 ·rfl
 ·rename_i x y
  split
  ·rw [appendEff_congr (x:=x) (y:=y) (h.mem fun z hz=>by simpa using hz),appendQ_congr (x:=x) (y:=y) (h.mem fun z hz=>by simpa using hz)]
  ·rfl
 ·rfl
theorem mem_tmps {t:Nat}:∀ {l:List Operand},Operand.tmp t∈l→t∈tmpsOf l
 | x::l,h=>by
  rcases List.mem_cons.1 h with rfl | h
  ·exact List.mem_cons_self
  ·have:=mem_tmps h
   cases x<;>simp [tmpsOf,this]
theorem argAVs_congr {E E':TypeId→Operand→AV}:∀ {xs:List Operand} {ts:List TypeId},(∀ x∈xs,∀ T,E' T x=E T x)→argAVs E' xs ts=argAVs E xs ts
 | [],_,_=>rfl
 | x::r,[],h=>by simp only [argAVs,h x List.mem_cons_self,argAVs_congr (xs:=r) fun y hy=>h y (List.mem_cons_of_mem _ hy)]
 | x::r,t::ts,h=>by simp only [argAVs,h x List.mem_cons_self,argAVs_congr (xs:=r) fun y hy=>h y (List.mem_cons_of_mem _ hy)]
theorem argAVs_ids {E:TypeId→Operand→AV} (hE:∀ T x,(E T x).ids=(E 0 x).ids):∀ {xs:List Operand} {ts:List TypeId},∀ y∈(argAVs E xs ts).flatMap AV.ids,y∈xs.flatMap fun x=>(E 0 x).ids
 | [],_,y,h=>by simp [argAVs] at h
 | x::r,[],y,h=>by
  simp only [argAVs,List.flatMap_cons,List.mem_append] at h ⊢
  exact h.imp id (argAVs_ids hE y)
 | x::r,t::ts,y,h=>by
  simp only [argAVs,List.flatMap_cons,List.mem_append] at h ⊢
  rw [hE t x] at h
  exact h.imp id (argAVs_ids hE y)
theorem eff0u_congr (hE:∀ t∈tmpsOf o.op.operands.toList,s'.env t=s.env t) (hO:Same s s' (opIds0 cx s g o)):eff0 cx s' g o=eff0 cx s g o:=by
 have hev:∀ x∈o.op.operands.toList,∀ g T,ev cx s' g T x=ev cx s g T x:=fun x hx g T=>ev_congr fun t ht=>hE t (mem_tmps (ht▸hx))
 have hidsB:∀ x∈o.op.operands.toList,∀ T,Same s s' ((ev cx s g T x).ids.flatMap (behind s)):=fun x hx T=>by
  rw [ids_ev]
  exact hO.mem fun y hy=>List.mem_append.2 (.inr (List.mem_flatMap.2 ⟨x,hx,hy⟩))
 have hids:∀ x∈o.op.operands.toList,∀ T,Same s s' (ev cx s g T x).ids:=fun x hx T=>(hidsB x hx T).behind
 have hdst:∀ d,o.dst=some d→s'.obs d=s.obs d:=fun d hd=>hO d (by unfold opIds0;rw [hd];simp)
 have hopt:∀ x:Option Operand,(∀ y,x=some y→y∈o.op.operands.toList)→optInt cx s' g x=optInt cx s g x:=fun x hx=>by
  cases x with
  | none=>rfl
  | some y=>simp only [optInt,hev y (hx y rfl)]
 have hparts:∀ ps:Array (Nat × Operand),(∀ x∈ps.toList,x.2∈o.op.operands.toList)→(ps.toList.map fun x=>ev cx s' g 0 x.2)=ps.toList.map (fun x=>ev cx s g 0 x.2)∧solid cx s' (ps.toList.map fun x=>ev cx s g 0 x.2)=solid cx s (ps.toList.map fun x=>ev cx s g 0 x.2):=fun ps hps=>by
  refine ⟨List.map_congr_left fun x hx=>hev _ (hps x hx) _ _,solid_congr fun y hy=>?_⟩
  obtain ⟨v,hv,hy⟩:=List.mem_flatMap.1 hy
  obtain ⟨x,hx,rfl⟩:=List.mem_map.1 hv
  exact hids _ (hps x hx) 0 y hy
 unfold eff0
 cases hd:o.dst with
 | none =>
  cases hop:o.op<;>try rfl
  case makeFunc f x y=>cases f<;>rfl
  case slice T x lo hi mx=>cases mx<;>rfl
  case makeMap T m=>cases m<;>rfl
  case mapUpdate T m x y =>
   rw [hop] at hev hids
   simp only
   rw [hev m (by simp [Op.operands]),hev x (by simp [Op.operands]),hev y (by simp [Op.operands])]
   unfold mapUpdateEff
   split
   ·rename_i q hq
    have hm:=hids m (by simp [Op.operands]) T
    rw [hq] at hm
    rw [hm q (by simp [AV.ids,svIds]),AV.dv_congr (v:=ev cx s g (keyTy cx T) x) (hids x (by simp [Op.operands]) _),solid_congr (l:=[ev cx s g (elemTy cx T) y]) fun z hz=>hids y (by simp [Op.operands]) _ z (by simpa using hz)]
   ·rfl
  case insert T m x y =>
   rw [hop] at hev hids
   simp only
   rw [hev m (by simp [Op.operands]),hev x (by simp [Op.operands]),hev y (by simp [Op.operands])]
   unfold mapUpdateEff
   split
   ·rename_i q hq
    have hm:=hids m (by simp [Op.operands]) T
    rw [hq] at hm
    rw [hm q (by simp [AV.ids,svIds]),AV.dv_congr (v:=ev cx s g (keyTy cx T) x) (hids x (by simp [Op.operands]) _),solid_congr (l:=[ev cx s g (elemTy cx T) y]) fun z hz=>hids y (by simp [Op.operands]) _ z (by simpa using hz)]
   ·rfl
  rename_i T x y
  rw [hop] at hev hids
  simp only
  rw [hev x (by simp [Op.operands]),hev y (by simp [Op.operands])]
  exact storeEff_congr fun z hz=>by
   rcases List.mem_append.1 hz with hz | hz
   ·exact hids x (by simp [Op.operands]) _ z hz
   ·exact hids y (by simp [Op.operands]) _ z hz
 | some d =>
  have hdd:=hdst d hd
  cases hop:o.op<;>rw [hop] at hev hids hidsB hopt hparts<;>try rfl
  case makeMap T m =>
   cases m with
   | none=>simp only [makeMapEff];rw [hdd]
   | some _=>rfl
  case range T x =>
   simp only
   rw [hev x (by simp [Op.operands])]
   unfold rangeEff
   rw [hdd]
  case entry x =>
   simp only
   rw [hev x (by simp [Op.operands])]
   have hi:=hids x (by simp [Op.operands]) 0
   generalize ev cx s g 0 x=ax at hi
   unfold entryEff
   split
   ·rename_i q
    rw [hi q (by simp [AV.ids,svIds])]
   ·rfl
  case lookup T m k cok =>
   simp only
   rw [hev m (by simp [Op.operands]),hev k (by simp [Op.operands])]
   unfold lookupEff
   rw [mapOf_congr (hids m (by simp [Op.operands]) T),AV.dv_congr (v:=ev cx s g (keyTy cx T) k) (hids k (by simp [Op.operands]) _)]
  case move x=>simp only;rw [hev x (by simp [Op.operands])]
  case assign x=>simp only;rw [hev x (by simp [Op.operands])]
  case pick c x y =>
   simp only
   rw [hev c (by simp [Op.operands])]
   split
   ·rw [hev x (by simp [Op.operands]),hev y (by simp [Op.operands])]
   ·rfl
  case alloc T=>simp only;rw [hdd]
  case box T x =>
   simp only
   rw [hdd,hev x (by simp [Op.operands]),one_congr (hids x (by simp [Op.operands]) T),solid_congr (l:=[ev cx s g T x]) fun y hy=>hids x (by simp [Op.operands]) T y (by simpa using hy)]
  case build T ps =>
   simp only
   obtain ⟨h1,h2⟩:=hparts ps fun x hx=>by simp only [Op.operands];exact List.mem_map_of_mem hx
   rw [h1,h2]
   have h3:(ps.toList.map fun x=>(x.1,ev cx s' g 0 x.2))=ps.toList.map fun x=>(x.1,ev cx s g 0 x.2):=List.map_congr_left fun x hx=>by rw [hev x.2 (by simp only [Op.operands];exact List.mem_map_of_mem hx)]
   rw [h3,buildAg_congr fun z hz=>?_]
   obtain ⟨p,hp,hz⟩:=List.mem_flatMap.1 hz
   obtain ⟨x,hx,rfl⟩:=List.mem_map.1 hp
   exact hids x.2 (by simp only [Op.operands];exact List.mem_map_of_mem hx) 0 z hz
  case buildSlice T m ps =>
   simp only
   obtain ⟨h1,h2⟩:=hparts ps fun x hx=>by simp only [Op.operands];exact List.mem_map_of_mem hx
   rw [hdd,h1,h2]
  case load T x =>
   simp only
   rw [hev x (by simp [Op.operands])]
   exact loadEff_congr (hidsB x (by simp [Op.operands]) 0)
  case binOp op T x y U=>simp only;rw [hev x (by simp [Op.operands]),hev y (by simp [Op.operands])]
  case unOp op T x=>simp only;rw [hev x (by simp [Op.operands])]
  case convert S T x=>simp only;rw [hev x (by simp [Op.operands])]
  case makeFunc f x y =>
   cases f with
   | func f =>
    simp only
    split
    ·have key:∀ {p q:Option (List SV)} {A B:List SV→Option Eff},p=q→(∀ c,q=some c→A c=B c)→(match p with | some c=>A c | none=>none)=(match q with | some c=>B c | none=>none):=by
      rintro p _ A B rfl h
      cases p with
      | none=>rfl
      | some c=>exact h c rfl
     refine key (optAll_congr fun z hz=>?_) fun c hc=>?_
     ·have hz':=hev z (by simp [Op.operands];exact .inr (by simpa using hz)) g 0
      simp only [hz']
     ·skip
      split
      ·rename_i q _
       unfold frcEff
       by_cases hm:memN q (c.flatMap svIds)=true
       ·obtain ⟨x,hx,hq⟩:=List.mem_flatMap.1 (memN_iff.1 hm)
        obtain ⟨z,hz,hzx⟩:=caps_src (optAll_all2 hc) hx
        rw [solid_congr (l:=[AV.s (.ptr q [])]) fun p hp=>by
         have hp:p=q:=by simpa [AV.ids,svIds] using hp
         subst hp
         exact hids z (by simp [Op.operands];exact .inr (by simpa using hz)) 0 p (by rw [hzx];exact hq)]
       ·have hm:memN q (c.flatMap svIds)=false:=by cases hh:memN q (c.flatMap svIds)<;>simp_all
        simp only [hm]
        repeat' split
        all_goals first | rfl | skip
      ·rfl
    ·rename_i z hz1
     split
     ·have hzm:z∈(Op.makeFunc (.func f) x y).operands.toList:=by simp only [Op.operands,Array.toList_append,List.mem_append];exact .inl (by rw [hz1];simp)
      rw [hev z hzm]
      have hb:∀ x:AV,x.ids=(ev cx s g 0 z).ids→bindEff cx s' f x=bindEff cx s f x:=fun x hx=>by
       unfold bindEff
       rw [solid_congr (l:=[x]) fun q hq=>hids z hzm 0 q (by simpa [hx] using hq)]
      unfold bindAny
      split
      ·rfl
      ·exact hb _ rfl
     ·rfl
    ·rfl
   | method nm =>
    simp only
    split
    ·rename_i z hz1 hz2
     rw [hev z (by simp only [Op.operands,Array.toList_append,List.mem_append];exact .inl (by rw [hz1];simp))]
    ·rfl
   | _=>rfl
  case makeSlice T x y=>simp only;rw [hdd,hev x (by simp [Op.operands]),hev y (by simp [Op.operands])]
  case slice T x lo hi mx =>
   cases mx<;>simp only
   rw [hopt lo (fun y hy=>by simp [Op.operands,hy]),hopt hi (fun y hy=>by simp [Op.operands,hy]),hev x (by simp [Op.operands])]
   split
   ·rw [sliceEff_congr (hids x (by simp [Op.operands]) T)]
    split
    ·rw [sliceQ_congr fun y hy=>?_]
     rcases List.mem_cons.1 hy with rfl | hy
     ·exact hdd
     ·exact hids x (by simp [Op.operands]) T y hy
    ·rfl
   ·rfl
  case nilCheck x =>
   simp only
   rw [hev x (by simp [Op.operands])]
   exact nilEff_congr (hids x (by simp [Op.operands]) 0)
  case fieldAddr T x k =>
   simp only
   rw [hev x (by simp [Op.operands])]
   exact addrField_congr (hids x (by simp [Op.operands]) 0)
  case field T x k=>simp only;rw [hev x (by simp [Op.operands])]
  case indexAddr T x i =>
   simp only
   rw [hev x (by simp [Op.operands]),hev i (by simp [Op.operands])]
   split
   ·exact addrIndex_congr (hids x (by simp [Op.operands]) T)
   ·rfl
  case index T x i=>simp only;rw [hev x (by simp [Op.operands]),hev i (by simp [Op.operands])]
  case extract x k=>simp only;rw [hev x (by simp [Op.operands])]
  case makeInterface T x =>
   simp only
   rw [hev x (by simp [Op.operands])]
   unfold ifaceEff
   rw [solid_congr (s:=s) (s':=s') (l:=[ev cx s g T x]) fun z hz=>hids x (by simp [Op.operands]) T z (by simpa using hz)]
  case call c =>
   simp only
   have hargs:argAVs (ev cx s' g) c.args.toList c.argTypes.toList=argAVs (ev cx s g) c.args.toList c.argTypes.toList :=
    argAVs_congr fun x hx T=>hev x (by simp only [Op.operands,Call.operands,Array.toList_append,List.mem_append];exact .inr hx) _ _
   have hai:∀ y∈(argAVs (ev cx s g) c.args.toList c.argTypes.toList).flatMap AV.ids,s'.obs y=s.obs y:=fun y hy=>by
    obtain ⟨x,hx,hy⟩:=List.mem_flatMap.1 (argAVs_ids (fun T x=>ids_ev T x) y hy)
    exact hids x (by simp only [Op.operands,Call.operands,Array.toList_append,List.mem_append];exact .inr hx) 0 y hy
   rw [hargs]
   split
   ·exact builtinEff_congr fun y hy=>by
     rcases List.mem_cons.1 hy with rfl | hy
     ·exact hdd
     ·exact hai y hy
   ·rename_i f hf
    have hfm:f∈(Op.call c).operands.toList:=by simp [Op.operands,Call.operands,hf]
    rw [hev f hfm]
    exact callVal_congr fun y hy=>by
     rcases List.mem_cons.1 hy with rfl | hy
     ·exact hdd
     obtain ⟨o',ho',hy⟩:=List.mem_flatMap.1 hy
     rcases List.mem_append.1 ho' with ho' | ho'
     ·exact hidsB f hfm 0 y (List.mem_flatMap.2 ⟨o',ho',hy⟩)
     ·obtain ⟨x,hx,ho'⟩:=List.mem_flatMap.1 (argAVs_ids (fun T x=>ids_ev T x) o' ho')
      exact hidsB x (by simp only [Op.operands,Call.operands,Array.toList_append,List.mem_append];exact .inr hx) 0 y (List.mem_flatMap.2 ⟨o',ho',hy⟩)
   ·rename_i f nm hf
    have hfm:f∈(Op.call c).operands.toList:=by simp [Op.operands,Call.operands,hf]
    rw [hev f hfm]
    unfold invEff
    rw [dvs_congr hai]
theorem loadR_congr {T:TypeId} {x:AV} (h:Same s s' x.ids):loadR cx s' T x=loadR cx s T x:=by
 unfold loadR
 split
 ·rename_i o q
  rw [h o (by simp [AV.ids,svIds])]
 ·rename_i o _ _ _ _
  rw [h o (by simp [AV.ids])]
 ·rfl
theorem storeR_congr {T o g e e2:Nat} {t:Ty} {l:List (List t.D)} {i:Nat} {v:AV} (h:Same s s' v.ids):storeR cx s' T o g e e2 t l i v=storeR cx s T o g e e2 t l i v:=by
 unfold storeR
 split
 ·split
  ·rfl
  ·rename_i r
   rw [h r (by simp [AV.ids,svIds])]
  ·rfl
 ·rfl
theorem storeRR_congr {T:TypeId} {x v:AV} (h:Same s s' x.ids) (hv:Same s s' v.ids):storeRR cx s' T x v=storeRR cx s T x v:=by
 unfold storeRR
 split
 ·rename_i o q
  rw [h o (by simp [AV.ids,svIds])]
  split
  ·split
   ·exact storeR_congr hv
   ·rfl
  ·rfl
 ·rename_i o _ _ _ _
  rw [h o (by simp [AV.ids])]
 ·rfl
theorem appendR_congr {d T:Nat} {x y:AV} (h:Same s s' (d::(x.ids++y.ids))):appendR cx s' d T x y=appendR cx s d T x y:=by
 unfold appendR
 split
 ·rename_i o o' _
  rw [h d (by simp),h o (by simp [AV.ids,svIds]),h o' (by simp [AV.ids,svIds])]
 ·rfl
theorem rowsOf_congr {e2:Nat} {t:Ty}:∀ {l:List AV},Same s s' (l.flatMap AV.ids)→rowsOf s' e2 t l=rowsOf s e2 t l
 | [],_=>rfl
 | v::r,h=>by
  unfold rowsOf
  rw [rowsOf_congr (l:=r) (h.mem fun y hy=>by simp only [List.flatMap_cons,List.mem_append];exact .inr hy)]
  split
  ·rfl
  ·split
   ·rfl
   ·rename_i o
    rw [h o (by simp [AV.ids,svIds])]
   ·rfl
theorem stlOne_congr {o n:Nat} (h:Same s s' (behind s o)):stlOne cx s' o n=stlOne cx s o n:=by
 unfold stlOne
 rw [h o (mem_behind o)]
 split
 ·rename_i t y hs ho
  rw [solid_congr (s:=s) (s':=s') (l:=(hs.drop n).map fun h=>.s h.2) (h.mem fun z hz=>by
   obtain ⟨v,hv,hz⟩:=List.mem_flatMap.1 hz
   obtain ⟨x,hx,rfl⟩:=List.mem_map.1 hv
   simp only [behind,ho]
   exact List.mem_cons_of_mem _ (List.mem_flatMap.2 ⟨x,List.mem_of_mem_drop hx,hz⟩))]
 ·rfl
theorem frcB_congr {f o:Nat} {c:List SV} (h:o∈c.flatMap svIds→Same s s' (behind s o)):frcB cx s' f o c=frcB cx s f o c:=by
 unfold frcB
 by_cases hm:memN o (c.flatMap svIds)=true
 ·rw [stlOne_congr (h (memN_iff.1 hm))]
  split
  ·rename_i wr hwr
   have:frcEff cx (aftW s' wr) f o c=frcEff cx (aftW s wr) f o c:=by
    unfold frcEff
    rw [solid_congr (s:=aftW s wr) (s':=aftW s' wr) (l:=[AV.s (.ptr o [])]) fun p hp=>by
     have hp:p=o:=by simpa [AV.ids,svIds] using hp
     subst hp
     unfold stlOne at hwr
     split at hwr
     ·split at hwr
      ·split at hwr
       ·have:=(cond_opt' hwr).2
        subst this
        show put _ p _ p=put _ p _ p
        rw [put_same,put_same]
       ·cases hwr
      ·cases hwr
     ·cases hwr]
   rw [this]
  ·rfl
 ·have hm:memN o (c.flatMap svIds)=false:=by cases hh:memN o (c.flatMap svIds)<;>simp_all
  have key:∀ S,frcEff cx S f o c=none:=by
   intro S
   unfold frcEff
   rw [hm]
   split<;>rfl
  simp only [key]
  split<;>split<;>rfl
theorem copyZ_congr {T:Nat} {x y:AV} (h:Same s s' (x.ids++y.ids)):copyZ cx s' T x y=copyZ cx s T x y:=by
 unfold copyZ
 rw [AV.dvA_congr (v:=y) (h.mem fun z hz=>by simp [hz])]
 split
 ·rename_i q
  rw [h q (by simp [AV.ids,svIds])]
 ·rfl
theorem effZ_congr (hE:∀ t∈tmpsOf o.op.operands.toList,s'.env t=s.env t) (hO:Same s s' (opIds cx s g o)):effZ cx s' g o=effZ cx s g o:=by
 have hev:∀ x∈o.op.operands.toList,∀ g T,ev cx s' g T x=ev cx s g T x:=fun x hx g T=>ev_congr fun t ht=>hE t (mem_tmps (ht▸hx))
 have hgen:opIds cx s g o=opIds0 cx s g o→(∀ x∈o.op.operands.toList,∀ T,Same s s' (ev cx s g T x).ids)∧∀ d,o.dst=some d→s'.obs d=s.obs d:=fun h0=>by
  rw [h0] at hO
  refine ⟨fun x hx T=>Same.behind (by
   rw [ids_ev]
   exact hO.mem fun y hy=>List.mem_append.2 (.inr (List.mem_flatMap.2 ⟨x,hx,hy⟩))),fun d hd=>hO d (by unfold opIds0;rw [hd];simp)⟩
 have hone:∀ {q:Nat} {x:AV},x=.s (.ptr q [])→Same s s' x.ids→s'.obs q=s.obs q:=fun hq hs=>hs _ (by rw [hq];simp [AV.ids,svIds])
 unfold effZ
 cases hd:o.dst with
 | none =>
  cases hop:o.op<;>try rfl
  rename_i T x y
  obtain ⟨h1,h2⟩:=hgen (by unfold opIds;rw [hop])
  rw [hop] at hev h1
  simp only
  rw [hev x (by simp [Op.operands]),hev y (by simp [Op.operands])]
  have h3:=h1 y (by simp [Op.operands]) T
  have h1:=h1 x (by simp [Op.operands]) 0
  generalize ev cx s g 0 x=ax at h1
  generalize ev cx s g T y=ay at h3
  have hs:solid cx s' [ay]=solid cx s [ay]:=solid_congr (l:=[ay]) (h3.mem fun z hz=>by simpa using hz)
  unfold storeZ
  split
  ·rename_i q
   rw [hone rfl h1]
   split
   ·congr 1
    split
    ·rfl
    ·rfl
    ·rw [hs]
   ·rfl
  ·rfl
 | some d =>
  cases hop:o.op<;>try rfl
  case alloc T =>
   obtain ⟨h1,h2⟩:=hgen (by unfold opIds;rw [hop])
   simp only [allocZ,h2 d hd]
  case load T x =>
   rw [hop] at hev
   simp only
   rw [hev x (by simp [Op.operands])]
   have hs:=loadIds_self (x:=ev cx s g 0 x) (hO.mem fun z hz=>by unfold opIds;rw [hop];exact List.mem_append.2 (.inr hz))
   generalize ev cx s g 0 x=ax at hs
   unfold loadZ
   split
   ·rename_i q
    rw [hone rfl hs]
   ·rfl
  case binOp op T x y U =>
   rw [hop] at hev
   simp only [hev x (by simp [Op.operands])]
  case call c =>
   obtain ⟨h1,h2⟩:=hgen (by unfold opIds;rw [hop])
   rw [hop] at hev h1
   simp only
   have hargs:argAVs (ev cx s' g) c.args.toList c.argTypes.toList=argAVs (ev cx s g) c.args.toList c.argTypes.toList:=argAVs_congr fun x hx T =>
    hev x (by simp only [Op.operands,Call.operands,Array.toList_append,List.mem_append];exact .inr hx) g T
   rw [hargs]
   split
   ·rename_i T T' x y hb hts hxs
    rw [copyZ_congr]
    intro z hz
    have hz:z∈(argAVs (ev cx s g) c.args.toList c.argTypes.toList).flatMap AV.ids:=by rw [hxs];simpa using hz
    obtain ⟨x,hx,ho'⟩:=List.mem_flatMap.1 (argAVs_ids (fun T x=>ids_ev T x) z hz)
    exact h1 x (by simp only [Op.operands,Call.operands,Array.toList_append,List.mem_append];exact .inr hx) 0 z ho'
   ·rfl
theorem effR_congr (hE:∀ t∈tmpsOf o.op.operands.toList,s'.env t=s.env t) (hO:Same s s' (opIds cx s g o)):effR cx s' g o=effR cx s g o:=by
 have hev:∀ x∈o.op.operands.toList,∀ g T,ev cx s' g T x=ev cx s g T x:=fun x hx g T=>ev_congr fun t ht=>hE t (mem_tmps (ht▸hx))
 have hgen:opIds cx s g o=opIds0 cx s g o→(∀ x∈o.op.operands.toList,∀ T,Same s s' (ev cx s g T x).ids)∧∀ d,o.dst=some d→s'.obs d=s.obs d:=fun h0=>by
  rw [h0] at hO
  refine ⟨fun x hx T=>Same.behind (by
   rw [ids_ev]
   exact hO.mem fun y hy=>List.mem_append.2 (.inr (List.mem_flatMap.2 ⟨x,hx,hy⟩))),fun d hd=>hO d (by unfold opIds0;rw [hd];simp)⟩
 unfold effR
 cases hd:o.dst with
 | none =>
  cases hop:o.op<;>try rfl
  case makeFunc F x y=>cases F<;>rfl
  rename_i T x y
  obtain ⟨h1,h2⟩:=hgen (by unfold opIds;rw [hop])
  rw [hop] at hev h1
  simp only
  rw [hev x (by simp [Op.operands]),hev y (by simp [Op.operands])]
  exact storeRR_congr (h1 x (by simp [Op.operands]) 0) (h1 y (by simp [Op.operands]) T)
 | some d =>
  cases hop:o.op<;>try rfl
  case assign x =>
   simp only
   cases hm:memN d cx.rrs with
   | false=>rfl
   | true =>
    have:s'.obs d=s.obs d:=hO d (by unfold opIds;rw [hop,hd];simp [hm])
    simp only [cond_true,nilR,this]
  case load T x =>
   rw [hop] at hev
   simp only
   rw [hev x (by simp [Op.operands])]
   have hs:=loadIds_self (x:=ev cx s g 0 x) (hO.mem fun z hz=>by unfold opIds;rw [hop];exact List.mem_append.2 (.inr hz))
   rw [loadR_congr hs]
   have:loadAg cx s' T (ev cx s g 0 x)=loadAg cx s T (ev cx s g 0 x):=by
    unfold loadAg
    split
    ·rename_i q hq
     rw [hs q (by rw [hq];simp [AV.ids,svIds])]
    ·rfl
   rw [this]
  case buildSlice T n ps =>
   obtain ⟨h1,h2⟩:=hgen (by unfold opIds;rw [hop])
   rw [hop] at hev h1
   have hm:∀ x∈ps.toList,x.2∈(Op.buildSlice T n ps).operands.toList:=fun x hx=>by simp only [Op.operands,Array.toList_map];exact List.mem_map.2 ⟨x,hx,rfl⟩
   have e1:(ps.toList.map fun x=>(x.1,ev cx s' g 0 x.2))=ps.toList.map fun x=>(x.1,ev cx s g 0 x.2):=List.map_congr_left fun x hx=>by rw [hev _ (hm x hx)]
   have hr:∀ e2 t,rowsOf s' e2 t ((ps.toList.map fun x=>(x.1,ev cx s g 0 x.2)).map (·.2))=rowsOf s e2 t ((ps.toList.map fun x=>(x.1,ev cx s g 0 x.2)).map (·.2)):=fun e2 t=>rowsOf_congr fun y hy=>by
    obtain ⟨v,hv,hy⟩:=List.mem_flatMap.1 hy
    obtain ⟨p,hp,rfl⟩:=List.mem_map.1 hv
    obtain ⟨x,hx,rfl⟩:=List.mem_map.1 hp
    exact h1 _ (hm x hx) 0 y hy
   simp only [e1,buildR,h2 d hd,hr]
  case makeFunc F x y =>
   cases F with
   | func f =>
    have hO:Same s s' (opIds0 cx s g o):=by unfold opIds at hO;rw [hop] at hO;exact hO
    have e1:optAll (fun x=>match ev cx s' g 0 x with | .s v=>some v | _=>none) y.toList=optAll (fun x=>match ev cx s g 0 x with | .s v=>some v | _=>none) y.toList:=optAll_congr fun z hz=>by
     rw [hev z (by rw [hop];simp [Op.operands];exact .inr (by simpa using hz)) g 0]
    show (match x.toList,cx.frc d,optAll (fun x=>match ev cx s' g 0 x with | .s v=>some v | _=>none) y.toList with | [],some o,some c=>frcB cx s' f o c | _,_,_=>none)=(match x.toList,cx.frc d,optAll (fun x=>match ev cx s g 0 x with | .s v=>some v | _=>none) y.toList with | [],some o,some c=>frcB cx s f o c | _,_,_=>none)
    rw [e1]
    cases hx0:x.toList with
    | cons _ _=>rfl
    | nil=>cases cx.frc d with
     | none=>rfl
     | some q=>cases hc:optAll (fun x=>match ev cx s g 0 x with | .s v=>some v | _=>none) y.toList with
      | none=>rfl
      | some c =>
       refine frcB_congr fun hm=>hO.mem fun p hp=>?_
       obtain ⟨v,hv,hq⟩:=List.mem_flatMap.1 hm
       obtain ⟨z,hz,hzx⟩:=caps_src (optAll_all2 hc) hv
       refine List.mem_append.2 (.inr (List.mem_flatMap.2 ⟨z,by rw [hop];simp [Op.operands];exact .inr (by simpa using hz),List.mem_flatMap.2 ⟨q,by rw [ids_ev,hzx];exact hq,hp⟩⟩))
   | _=>rfl
  case makeSlice T x y =>
   obtain ⟨h1,h2⟩:=hgen (by unfold opIds;rw [hop])
   rw [hop] at hev h1
   simp only [hev x (by simp [Op.operands]),hev y (by simp [Op.operands]),makeR,h2 d hd]
  case call c =>
   obtain ⟨h1,h2⟩:=hgen (by unfold opIds;rw [hop])
   rw [hop] at hev h1
   simp only
   have hargs:argAVs (ev cx s' g) c.args.toList c.argTypes.toList=argAVs (ev cx s g) c.args.toList c.argTypes.toList:=argAVs_congr fun x hx T =>
    hev x (by simp only [Op.operands,Call.operands,Array.toList_append,List.mem_append];exact .inr hx) g T
   rw [hargs]
   split
   ·rename_i T T' x y hb hts hxs
    rw [appendR_congr]
    intro z hz
    rcases List.mem_cons.1 hz with rfl | hz
    ·exact h2 _ hd
    ·have hz:z∈(argAVs (ev cx s g) c.args.toList c.argTypes.toList).flatMap AV.ids:=by rw [hxs];simpa using hz
     obtain ⟨x,hx,ho'⟩:=List.mem_flatMap.1 (argAVs_ids (fun T x=>ids_ev T x) z hz)
     exact h1 x (by simp only [Op.operands,Call.operands,Array.toList_append,List.mem_append];exact .inr hx) 0 z ho'
   ·rfl
theorem eff_congr (hE:∀ t∈tmpsOf o.op.operands.toList,s'.env t=s.env t) (hO:Same s s' (opIds cx s g o)):eff cx s' g o=eff cx s g o:=by
 have h0:eff0 cx s' g o=eff0 cx s g o:=by
  cases hop:o.op with
  | move x =>
   have hx:∀ T,ev cx s' g T x=ev cx s g T x:=fun T=>ev_congr fun t ht=>hE t (mem_tmps (by rw [hop];simp [Op.operands,ht]))
   unfold eff0;rw [hop];cases o.dst with | none=>rfl | some d=>simp only [hx]
  | assign x =>
   have hx:∀ T,ev cx s' g T x=ev cx s g T x:=fun T=>ev_congr fun t ht=>hE t (mem_tmps (by rw [hop];simp [Op.operands,ht]))
   unfold eff0;rw [hop];cases o.dst with | none=>rfl | some d=>simp only [hx]
  | load T x =>
   have hx:∀ T,ev cx s' g T x=ev cx s g T x:=fun T=>ev_congr fun t ht=>hE t (mem_tmps (by rw [hop];simp [Op.operands,ht]))
   unfold eff0;rw [hop];cases o.dst with | none=>rfl | some d=>simp only [hx];exact loadEff_congr' (hO.mem fun z hz=>by unfold opIds;rw [hop];exact List.mem_append.2 (.inr hz))
  | nilCheck x =>
   have hx:∀ T,ev cx s' g T x=ev cx s g T x:=fun T=>ev_congr fun t ht=>hE t (mem_tmps (by rw [hop];simp [Op.operands,ht]))
   unfold eff0;rw [hop];cases o.dst with | none=>rfl | some d=>simp only [hx];exact nilEff_congr (hO.mem fun z hz=>by unfold opIds opIds1;rw [hop];exact List.mem_append.2 (.inr (List.mem_flatMap.2 ⟨x,by simp [Op.operands],hz⟩)))
  | fieldAddr T x k =>
   have hx:∀ T,ev cx s' g T x=ev cx s g T x:=fun T=>ev_congr fun t ht=>hE t (mem_tmps (by rw [hop];simp [Op.operands,ht]))
   unfold eff0;rw [hop];cases o.dst with | none=>rfl | some d=>simp only [hx];exact addrField_congr (hO.mem fun z hz=>by unfold opIds opIds1;rw [hop];exact List.mem_append.2 (.inr (List.mem_flatMap.2 ⟨x,by simp [Op.operands],hz⟩)))
  | indexAddr T x i =>
   have hx:∀ T,ev cx s' g T x=ev cx s g T x:=fun T=>ev_congr fun t ht=>hE t (mem_tmps (by rw [hop];simp [Op.operands,ht]))
   have hi:∀ T,ev cx s' g T i=ev cx s g T i:=fun T=>ev_congr fun t ht=>hE t (mem_tmps (by rw [hop];simp [Op.operands,ht]))
   have key:∀ n,addrIndex cx s' T (ev cx s g T x) n=addrIndex cx s T (ev cx s g T x) n:=fun n=>addrIndex_congr (hO.mem fun z hz=>by
    rw [ids_ev] at hz
    unfold opIds opIds1;rw [hop];exact List.mem_append.2 (.inr (List.mem_flatMap.2 ⟨x,by simp [Op.operands],hz⟩)))
   unfold eff0;rw [hop];cases o.dst with | none=>rfl | some d=>simp only [hx,hi,key]
  | _=>exact eff0u_congr hE (by unfold opIds at hO;rw [hop] at hO;exact hO)
 have h1:eff1 cx s' g o=eff1 cx s g o:=by unfold eff1;rw [effZ_congr hE hO,effR_congr hE hO,h0]
 unfold eff
 rw [h1]
 have:stillOk cx s' g o=stillOk cx s g o:=by
  unfold stillOk
  split
  ·rfl
  ·split
   ·rename_i c hop
    split
    ·rfl
    ·rfl
    ·rename_i t hc
     rw [hE t (mem_tmps (by rw [hop];simp [Op.operands,Call.operands,hc]))]
    ·rename_i t nm hc
     rw [hE t (mem_tmps (by rw [hop];simp [Op.operands,Call.operands,hc]))]
    ·rfl
   ·rfl
 rw [this]
end
end Go.Sx
