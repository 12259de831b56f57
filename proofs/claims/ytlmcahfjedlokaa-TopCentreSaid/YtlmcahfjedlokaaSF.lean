/-
  The symbolic layer, part 24: a loop's head.
-/
import Derived.Test.YtlmcahfjedlokaaSE
import Derived.RangeFuncIn
import Derived.RangeFuncRecord
import Derived.RangeFuncLeaves
set_option linter.all false
namespace Go.Sx
section
variable {cx:Cx} {s s' base:ASt}
theorem svEq_eq {a b:SV} (h:svEq a b=true):a=b:=by
 unfold svEq at h
 split at h
 ·rw [Nat.eq_of_beq_eq_true h]
 ·rw [Nat.eq_of_beq_eq_true h]
 ·simp only [Bool.and_eq_true] at h
  rw [Nat.eq_of_beq_eq_true h.1,pathEq_eq h.2]
 ·simp only [Bool.and_eq_true] at h
  rw [Nat.eq_of_beq_eq_true h.1,Ty.beq_eq h.2]
 ·cases h
theorem hsEq_eq:∀ {a b:List (List Stp × SV)},hsEq a b=true→a=b
 | [],[],_=>rfl
 | (p,v)::a,(p',v')::b,h=>by
  simp only [hsEq,Bool.and_eq_true] at h
  rw [pathEq_eq h.1.1,svEq_eq h.1.2,hsEq_eq h.2]
 | [],_::_,h=>by cases h
 | _::_,[],h=>by cases h
def ShpOk (r:Bool):Shp→Prop
 | .d _=>r=false
 | .row _ _=>r=true
 | .g _=>False
 | .bp _ _=>False
 | .m _ _=>False
 | .rq _ _=>False
 | .it _ _=>False
 | .rr _ _ _ _=>r=true
def Match:List (Nat × Bool)→List Nat→List Shp→Prop
 | [],[],[]=>True
 | (_,r)::sl,ob,h::hs=>ShpOk r h∧Match sl ob hs
 | [],_::ob,_::hs=>Match [] ob hs
 | _,_,_=>False
def SlotF (cx:Cx) (s' head:ASt) (t:Nat) (r:Bool):Prop :=
 (r=false∧∃ e v y,(s'.env t).v.dv cx s'=some v∧castD v.t e v.x=some y∧head.env t=⟨[],.s (.d e y)⟩) ∨
 (r=true∧∃ e₀ e l,head.env t=⟨[],.s (.os (hid t))⟩∧head.obs (hid t)=some (some (.row false e₀ e l)) ∧
  ((∃ e',(s'.env t).v=.s (.nl e₀ e')∧l=[])∨∃ o,(s'.env t).v=.s (.os o)∧s'.obs o=some (some (.row false e₀ e l)))) ∨
 (r=true∧∃ ob o,head.env t=⟨[],.s (.os (hid t))⟩∧head.obs (hid t)=some (some ob)∧(s'.env t).v=.s (.os o)∧s'.obs o=some (some ob)∧obFz ob=false∧isRow ob=true)
def ObjF (s' head:ASt) (o:Nat):Prop:=∃ ob,head.obs o=some (some ob)∧s'.obs o=some (some ob)∧obFz ob=false
theorem castD_sl {t t':Ty} {x:List t.D} {y:List t'.D} (h:castD (.sl t) (.sl t') x=some y):∃ e:t=t',y=e▸x:=by
 obtain ⟨e,h⟩:=castD_some h
 cases e
 exact ⟨rfl,h⟩
theorem collect_cons_slot {t:Nat} {r:Bool} {sl:List (Nat × Bool)} {ob:List Nat} {h:Shp} {hs:List Shp} {x:Shps (h::hs)} (hc:collect cx s' ((t,r)::sl) ob (h::hs)=some x) :
  ∃ (y:h.D) (z:Shps hs),slotVal cx s' t h=some y∧collect cx s' sl ob hs=some z∧∀ base,spread base ((t,r)::sl) ob (h::hs) x=putSlot (spread base sl ob hs z) t h y:=by
 cases hs with
 | nil =>
  match sl,ob with
  | [],[]=>exact ⟨x,(),hc,rfl,fun _=>rfl⟩
  | [],_::_=>simp [collect] at hc
  | _::_,[]=>simp [collect] at hc
  | _::_,_::_=>simp [collect] at hc
 | cons h' hs =>
  have e1:collect cx s' ((t,r)::sl) ob (h::h'::hs)=match slotVal cx s' t h,collect cx s' sl ob (h'::hs) with
   | some x,some y=>some (x,y)
   | _,_=>none:=by
   match sl,ob with
   | [],[]=>rfl
   | [],_::_=>rfl
   | _::_,[]=>rfl
   | _::_,_::_=>rfl
  rw [e1] at hc
  split at hc
  ·rename_i y z h1 h2
   cases hc
   refine ⟨y,z,h1,h2,fun base=>?_⟩
   match sl,ob with
   | [],[]=>rfl
   | [],_::_=>rfl
   | _::_,[]=>rfl
   | _::_,_::_=>rfl
  ·cases hc
theorem collect_cons_obj {o:Nat} {ob:List Nat} {h:Shp} {hs:List Shp} {x:Shps (h::hs)} (hc:collect cx s' [] (o::ob) (h::hs)=some x) :
  ∃ (y:h.D) (z:Shps hs),objVal s' o h=some y∧collect cx s' [] ob hs=some z∧∀ base,spread base [] (o::ob) (h::hs) x=putObj (spread base [] ob hs z) o h y:=by
 cases hs with
 | nil =>
  match ob with
  | []=>exact ⟨x,(),hc,rfl,fun _=>rfl⟩
  | _::_=>simp [collect] at hc
 | cons h' hs =>
  have e1:collect cx s' [] (o::ob) (h::h'::hs)=match objVal s' o h,collect cx s' [] ob (h'::hs) with
   | some x,some y=>some (x,y)
   | _,_=>none:=by
   match ob with
   | []=>rfl
   | _::_=>rfl
  rw [e1] at hc
  split at hc
  ·rename_i y z h1 h2
   cases hc
   refine ⟨y,z,h1,h2,fun base=>?_⟩
   match ob with
   | []=>rfl
   | _::_=>rfl
  ·cases hc
theorem hid_inj {t t':Nat} (h:hid t=hid t'):t=t':=by simp only [hid] at h;omega
def hids (sl:List (Nat × Bool)):List Nat:=(sl.filter (·.2)).map fun x=>hid x.1
theorem mem_hids {sl:List (Nat × Bool)} {o:Nat} (h:o∈hids sl):∃ t,(t,true)∈sl∧o=hid t:=by
 obtain ⟨⟨t,r⟩,h1,rfl⟩:=List.mem_map.1 h
 obtain ⟨h1,h2⟩:=List.mem_filter.1 h1
 have:r=true:=h2
 subst this
 exact ⟨t,h1,rfl⟩
theorem putSlot_env {base:ASt} {t:Nat} {h:Shp} {y:h.D} {t':Nat} (ht:t'≠t):(putSlot base t h y).env t'=base.env t':=by
 cases h<;>first | exact put_other _ _ ht | rfl
theorem putSlot_obs {base:ASt} {t:Nat} {h:Shp} {y:h.D} {o:Nat} (ho:o≠hid t):(putSlot base t h y).obs o=base.obs o:=by
 cases h
 ·rfl
 ·exact put_other _ _ ho
 ·rfl
 ·rfl
 ·rfl
 ·rfl
 ·exact put_other _ _ ho
 ·rfl
theorem putObj_env {base:ASt} {t:Nat} {h:Shp} {y:h.D}:(putObj base t h y).env=base.env:=by cases h<;>rfl
theorem putObj_obs {base:ASt} {t:Nat} {h:Shp} {y:h.D} {o:Nat} (ho:o≠t):(putObj base t h y).obs o=base.obs o:=by
 cases h<;>exact put_other _ _ ho
theorem SlotF.congr {head head':ASt} {t:Nat} {r:Bool} (h:SlotF cx s' head t r) (he:head'.env t=head.env t) (ho:r=true→head'.obs (hid t)=head.obs (hid t)):SlotF cx s' head' t r:=by
 rcases h with ⟨h1,e,v,y,h2,h3,h4⟩ | ⟨h1,e₀,e,l,h2,h3,h4⟩ | ⟨h1,ob,o,h2,h3,h4⟩
 ·exact .inl ⟨h1,e,v,y,h2,h3,he.trans h4⟩
 ·exact .inr (.inl ⟨h1,e₀,e,l,he.trans h2,(ho h1).trans h3,h4⟩)
 ·exact .inr (.inr ⟨h1,ob,o,he.trans h2,(ho h1).trans h3,h4⟩)
theorem head_fact:∀ {hs:List Shp} {sl:List (Nat × Bool)} {ob:List Nat} {x:Shps hs},Match sl ob hs→collect cx s' sl ob hs=some x→(sl.map (·.1)).Nodup→(hids sl++ob).Nodup →
  (∀ y∈sl,SlotF cx s' (spread base sl ob hs x) y.1 y.2)∧(∀ o∈ob,ObjF s' (spread base sl ob hs x) o) ∧
  (∀ t,t∉sl.map (·.1)→(spread base sl ob hs x).env t=base.env t)∧∀ o,o∉hids sl→o∉ob→(spread base sl ob hs x).obs o=base.obs o
 | [],sl,ob,x,hm,hc,_,_=>by
  match sl,ob with
  | [],[]=>exact ⟨fun y hy=>(by cases hy),fun o ho=>(by cases ho),fun t _=>rfl,fun o _ _=>rfl⟩
  | _::_,_=>exact hm.elim
  | [],_::_=>exact hm.elim
 | h::hs,sl,ob,x,hm,hc,hn1,hn2=>by
  match sl,ob with
  | [],[]=>exact hm.elim
  | (t,r)::sl,ob =>
   obtain ⟨y,z,h1,h2,h3⟩:=collect_cons_slot hc
   have hmm:Match sl ob hs:=by cases ob<;>exact hm.2
   have hsh:ShpOk r h:=by cases ob<;>exact hm.1
   have hn1':=List.nodup_cons.1 hn1
   have hn2':(hids sl++ob).Nodup∧(r=true→hid t∉hids sl++ob):=by
    cases r with
    | false=>exact ⟨hn2,fun h=>by cases h⟩
    | true =>
     have:=List.nodup_cons.1 (show (hid t::(hids sl++ob)).Nodup from hn2)
     exact ⟨this.2,fun _=>this.1⟩
   obtain ⟨g1,g2,g3,g4⟩:=head_fact hmm h2 hn1'.2 hn2'.1
   rw [h3]
   have hrow:∀ o,(∃ e₀ e,h=.row e₀ e)→o≠hid t→True:=fun _ _ _=>trivial
   refine ⟨?_,?_,?_,?_⟩
   ·intro q hq
    rcases List.mem_cons.1 hq with rfl | hq
    ·cases h with
     | g _=>exact hsh.elim
     | bp _ _=>exact hsh.elim
     | m _ _=>exact hsh.elim
     | rq _ _=>exact hsh.elim
     | it _ _=>exact hsh.elim
     | d e =>
      left
      refine ⟨hsh,e,?_⟩
      simp only [slotVal] at h1
      split at h1
      ·rename_i v hv
       exact ⟨v,y,hv,h1,put_same _ _ _⟩
      ·cases h1
     | row e₀ e =>
      right;left
      refine ⟨hsh,e₀,e,y,put_same _ _ _,put_same _ _ _,?_⟩
      simp only [slotVal] at h1
      split at h1
      ·rename_i e₁ t₁ hv
       cases hb:Nat.beq e₁ e₀ with
       | false=>rw [hb] at h1;cases h1
       | true =>
        rw [hb] at h1
        have:=Nat.eq_of_beq_eq_true hb
        subst this
        simp only [cond_true,Option.some.injEq] at h1
        exact .inl ⟨_,hv,h1.symm⟩
      ·rename_i o hv
       split at h1
       ·rename_i e₁ e' l ho
        cases hb:Nat.beq e₁ e₀ with
        | false=>rw [hb] at h1;cases h1
        | true =>
         rw [hb] at h1
         have:=Nat.eq_of_beq_eq_true hb
         subst this
         simp only [cond_true] at h1
         obtain ⟨e2,h4⟩:=castD_sl h1
         subst e2
         have h4:y=l:=h4
         subst h4
         exact .inr ⟨o,hv,ho⟩
       ·cases h1
      ·cases h1
     | rr g₀ e₀ f₀ e =>
      right;right
      refine ⟨hsh,?_⟩
      simp only [slotVal] at h1
      split at h1
      ·rename_i o hv
       split at h1
       ·rename_i g₁ e₁ f₁ e' l ho
        rw [Bool.cond_eq_ite] at h1
        split at h1
        ·rename_i hb
         simp only [Bool.and_eq_true] at hb
         have q1:=Nat.eq_of_beq_eq_true hb.1
         have q2:=Nat.eq_of_beq_eq_true hb.2.1
         have q3:=Nat.eq_of_beq_eq_true hb.2.2
         subst q1 q2 q3
         obtain ⟨q4,h4⟩:=castD_some h1
         cases q4
         have h4:y=l:=h4
         subst h4
         exact ⟨_,o,put_same _ _ _,put_same _ _ _,hv,ho,rfl,rfl⟩
        ·cases h1
       ·cases h1
      ·cases h1
    ·have hne:q.1≠t:=fun e=>hn1'.1 (List.mem_map.2 ⟨q,hq,e⟩)
     refine (g1 q hq).congr (putSlot_env hne) fun hr=>putSlot_obs fun e=>hne (hid_inj e)
   ·intro o ho
    obtain ⟨ob',k1,k2⟩:=g2 o ho
    refine ⟨ob',?_,k2⟩
    cases h with
    | g _=>exact hsh.elim
    | bp _ _=>exact hsh.elim
    | m _ _=>exact hsh.elim
    | rq _ _=>exact hsh.elim
    | it _ _=>exact hsh.elim
    | d e=>exact k1
    | rr _ _ _ _ =>
     have hr:r=true:=hsh
     exact (putSlot_obs fun e=>hn2'.2 hr (List.mem_append.2 (.inr (e▸ho)))).trans k1
    | row e₀ e =>
     have hr:r=true:=hsh
     exact (putSlot_obs fun e=>hn2'.2 hr (List.mem_append.2 (.inr (e▸ho)))).trans k1
   ·intro t' ht'
    simp only [List.map_cons,List.mem_cons,not_or] at ht'
    rw [putSlot_env ht'.1]
    exact g3 t' ht'.2
   ·intro o ho ho'
    cases h with
    | g _=>exact hsh.elim
    | bp _ _=>exact hsh.elim
    | m _ _=>exact hsh.elim
    | rq _ _=>exact hsh.elim
    | it _ _=>exact hsh.elim
    | d e =>
     have hr:r=false:=hsh
     subst hr
     exact g4 o ho ho'
    | rr _ _ _ _ =>
     have hr:r=true:=hsh
     subst hr
     have ho2:o≠hid t∧o∉hids sl:=by
      have:hids ((t,true)::sl)=hid t::hids sl:=rfl
      rw [this] at ho
      simpa using ho
     rw [putSlot_obs ho2.1]
     exact g4 o ho2.2 ho'
    | row e₀ e =>
     have hr:r=true:=hsh
     subst hr
     have ho2:o≠hid t∧o∉hids sl:=by
      have:hids ((t,true)::sl)=hid t::hids sl:=rfl
      rw [this] at ho
      simpa using ho
     rw [putSlot_obs ho2.1]
     exact g4 o ho2.2 ho'
  | [],o::ob =>
   obtain ⟨y,z,h1,h2,h3⟩:=collect_cons_obj hc
   have hmm:Match [] ob hs:=hm
   have hn2':=List.nodup_cons.1 (show (o::ob).Nodup from hn2)
   obtain ⟨g1,g2,g3,g4⟩:=head_fact hmm h2 hn1 hn2'.2
   rw [h3]
   refine ⟨fun y hy=>(by cases hy),?_,?_,?_⟩
   ·intro q hq
    rcases List.mem_cons.1 hq with rfl | hq
    ·cases h with
     | g e =>
      simp only [objVal] at h1
      split at h1
      ·rename_i t x' ho
       obtain ⟨e2,h4⟩:=castD_some h1
       subst e2
       have h4:y=x':=h4
       subst h4
       exact ⟨_,put_same _ _ _,ho,rfl⟩
      ·cases h1
     | d e =>
      simp only [objVal] at h1
      split at h1
      ·rename_i t x' ho
       obtain ⟨e2,h4⟩:=castD_some h1
       subst e2
       have h4:y=x':=h4
       subst h4
       exact ⟨_,put_same _ _ _,ho,rfl⟩
      ·cases h1
     | bp e hs =>
      simp only [objVal] at h1
      split at h1
      ·rename_i t x' hs' ho
       rw [Bool.cond_eq_ite] at h1
       split at h1
       ·rename_i hh
        have hh:=hsEq_eq hh
        subst hh
        obtain ⟨e2,h4⟩:=castD_some h1
        subst e2
        have h4:y=x':=h4
        subst h4
        exact ⟨_,put_same _ _ _,ho,rfl⟩
       ·cases h1
      ·cases h1
     | row e₀ e =>
      simp only [objVal] at h1
      split at h1
      ·rename_i e₁ e' l ho
       cases hb:Nat.beq e₁ e₀ with
       | false=>rw [hb] at h1;cases h1
       | true =>
        rw [hb] at h1
        have:=Nat.eq_of_beq_eq_true hb
        subst this
        simp only [cond_true] at h1
        obtain ⟨e2,h4⟩:=castD_sl h1
        subst e2
        have h4:y=l:=h4
        subst h4
        exact ⟨_,put_same _ _ _,ho,rfl⟩
      ·cases h1
     | rq e₀ e =>
      simp only [objVal] at h1
      split at h1
      ·rename_i e₁ e' l ho
       cases hb:Nat.beq e₁ e₀ with
       | false=>rw [hb] at h1;cases h1
       | true =>
        rw [hb] at h1
        have:=Nat.eq_of_beq_eq_true hb
        subst this
        simp only [cond_true] at h1
        obtain ⟨e2,h4⟩:=castD_sl h1
        subst e2
        have h4:y=l:=h4
        subst h4
        exact ⟨_,put_same _ _ _,ho,rfl⟩
      ·cases h1
     | rr g₀ e₀ f₀ e =>
      simp only [objVal] at h1
      split at h1
      ·rename_i g₁ e₁ f₁ e' l ho
       rw [Bool.cond_eq_ite] at h1
       split at h1
       ·rename_i hb
        simp only [Bool.and_eq_true] at hb
        have q1:=Nat.eq_of_beq_eq_true hb.1
        have q2:=Nat.eq_of_beq_eq_true hb.2.1
        have q3:=Nat.eq_of_beq_eq_true hb.2.2
        subst q1 q2 q3
        obtain ⟨q4,h4⟩:=castD_some h1
        cases q4
        have h4:y=l:=h4
        subst h4
        exact ⟨_,put_same _ _ _,ho,rfl⟩
       ·cases h1
      ·cases h1
     | m tk tv =>
      simp only [objVal] at h1
      split at h1
      ·rename_i k' v' m ho
       obtain ⟨e2,h4⟩:=castD_some h1
       cases e2
       have h4:y=m:=h4
       subst h4
       exact ⟨_,put_same _ _ _,ho,rfl⟩
      ·cases h1
     | it tk tv =>
      simp only [objVal] at h1
      split at h1
      ·rename_i k' v' m l ho
       obtain ⟨e2,h4⟩:=castD_some h1
       cases e2
       have h4:y=(m,l):=h4
       subst h4
       exact ⟨_,put_same _ _ _,ho,rfl⟩
      ·cases h1
    ·obtain ⟨ob',k1,k2⟩:=g2 q hq
     exact ⟨ob',(putObj_obs fun e=>hn2'.1 (by rw [←e];exact hq)).trans k1,k2⟩
   ·intro t' ht'
    rw [putObj_env];exact g3 t' ht'
   ·intro q hq hq'
    simp only [List.mem_cons,not_or] at hq'
    rw [putObj_obs hq'.1]
    exact g4 q hq hq'.2
end
end Go.Sx
/-
 The symbolic layer,part 25: from the entry,or a round's end,to a loop's head.
-/
namespace Go.Sx
section
variable {K:Ctx} {cx:Cx} {s s' s₀ head:ASt} {a:Act} {w:World} {β β':Nat→Loc}
structure Names (s:ASt) (β:Nat→Loc) (head:ASt) (β':Nat→Loc):Prop where
 live:∀ o ob,head.obs o=some (some ob)→(isRow ob=true∧β' o=⟨none,.slice none 0 0,[]⟩∧(∃ e t,ob=.row false e t [])∨∃ o',s.obs o'=some (some ob)∧β' o=β o')
 inj:∀ o₁ o₂ ob₁ ob₂ b,head.obs o₁=some (some ob₁)→head.obs o₂=some (some ob₂)→(β' o₁).has b→(β' o₂).has b→o₁=o₂
theorem Names.tr (h:RelB K s a w β) (hN:Names s β head β'):Tr (Mset K.Mg s β) w (Mset K.Mg head β') w:=by
 refine ⟨.refl _ _,fun b _ hb=>hb.imp id ?_⟩
 rintro ⟨o,ob,h1,h2,h3⟩
 rcases hN.live o ob h1 with ⟨_,e1,_⟩ | ⟨o',e1,e2⟩
 ·rw [e1] at h3;cases one_blk h3
 ·exact ⟨o',ob,e1,h2,e2▸h3⟩
theorem hr_svs {P:Program} {s:ASt} {β:Nat→Loc} {w:World} {M:Nat→Prop} {t:Ty} {n:Nat}:∀ {hs:List (List Stp × SV)} {us:List (Nat × Value)},All2 (HR P s β w M t n) hs us→All2 (SVRep P s β w M) (hs.map (·.2)) (us.map (·.2))
 | [],[],_=>trivial
 | _::_,_::_,h=>⟨h.1.2.2.2,hr_svs h.2⟩
 | [],_::_,h=>h.elim
 | _::_,[],h=>h.elim
theorem hr_back {P:Program} {s s':ASt} {β β':Nat→Loc} {w w':World} {M M':Nat→Prop} {t:Ty} {n:Nat}:∀ {hs:List (List Stp × SV)} {us:List (Nat × Value)},All2 (HR P s β w M t n) hs us→All2 (SVRep P s' β' w' M') (hs.map (·.2)) (us.map (·.2))→All2 (HR P s' β' w' M' t n) hs us
 | [],[],_,_=>trivial
 | _::_,_::_,h,h'=>⟨⟨h.1.1,h.1.2.1,h.1.2.2.1,h'.1⟩,hr_back h.2 h'.2⟩
 | [],_::_,h,_=>h.elim
 | _::_,[],h,_=>h.elim
theorem head_rel (h:RelB K s a w β) (hN:Names s β head β') (hbv:∀ o ob v,head.obs o=some (some ob)→ob.inner=some v→∀ u,AVRep K.P s β w (Mset K.Mg s β) v u→AVRep K.P head β' w (Mset K.Mg head β') v u)
  (hgh:ghOf (head.obs K.gid)=ghOf (s.obs K.gid)∨∀ g G M w,K.J g G M w) (henv:∀ t,EntRep K.P head β' a w (Mset K.Mg head β') (head.env t) (a.tmps.getD t undef))
  (hpos:∀ o p,K.pos o=some p→head.obs o=some none∨∃ ob,head.obs o=some (some ob)∧p ob (β' o)):RelB K head a w β':=by
 have ht:=hN.tr h
 have hown:∀ b,Own head β' b→Own s β b:=by
  rintro b ⟨o,ob,h1,h2,h3⟩
  rcases hN.live o ob h1 with ⟨_,e1,_⟩ | ⟨o',e1,e2⟩
  ·rw [e1] at h3;cases one_blk h3
  ·exact ⟨o',ob,e1,h2,e2▸h3⟩
 refine ⟨h.frame,h.mg,?_,?_,hN.inj,?_,henv,h.size,h.defs,h.dnd,h.nod,h.pins,?_,h.fix,hpos,fun o ob ho hr=>?_⟩
 rotate_left 4
 ·rcases hN.live o ob ho with ⟨_,e1,_⟩ | ⟨o',e1,e2⟩
  ·rw [e1]
  ·rw [e2];exact h.sb o' ob e1 hr
 ·intro o ob b ho hb
  rcases hN.live o ob ho with ⟨_,e1,_⟩ | ⟨o',e1,e2⟩
  ·rw [e1] at hb;cases one_blk hb
  ·exact h.dis o' ob b e1 (e2▸hb)
 ·intro o ob ho
  rcases hN.live o ob ho with ⟨_,e1,e,t,rfl⟩ | ⟨o',e1,e2⟩
  ·rw [e1]
   exact ⟨by simp,rfl,[],trivial,by simp,.inl ⟨rfl,rfl⟩⟩
  ·rw [e2]
   have:=h.ob o' ob e1
   cases ob with
   | bx f t x =>
    obtain ⟨b,vs,e,h1,h2,h3⟩:=this
    exact ⟨b,vs,e,h1,h2,h3.tr ht⟩
   | row f e t l =>
    obtain ⟨h1,h2,vss,h3,h4⟩:=this
    exact ⟨h1,h2,vss,h3.mono fun _ _ h=>h.tr ht,h4⟩
   | bv v =>
    obtain ⟨b,u,e,h1,h2,h3⟩:=this
    exact ⟨b,u,e,h1,h2,hbv o _ v ho rfl u h3⟩
   | mm tk tv inv =>
    obtain ⟨b,es,ck,h1,h2,h3⟩:=this
    refine ⟨b,es,ck,h1,h2,fun e he=>?_⟩
    obtain ⟨x,y,g1,g2,g3⟩:=h3 e he
    exact ⟨x,y,g1.tr ht,g2.tr ht,g3⟩
   | me f tk tv m =>
    obtain ⟨b,es,ck,h1,h2,hsm,h3⟩:=this
    exact ⟨b,es,ck,h1,h2,hsm,h3.mono (fun _ _ h=>h.tr ht) fun _ _ h=>h.tr ht⟩
   | gh t x=>exact this
   | it tk tv m l =>
    obtain ⟨b,mp,since,seen,h1,h2,h3⟩:=this
    exact ⟨b,mp,since,seen,h1,h2,h3.tr ht⟩
   | rq f e t l =>
    obtain ⟨h1,h2,k,vss,h3,h4⟩:=this
    exact ⟨h1,h2,k,vss,h3.mono fun _ _ h=>h.tr ht,h4⟩
   | rr _ _ _ _ _ _=>exact this
   | bp t x hs =>
    obtain ⟨b,vs,e,us,h1,h2,h3,h4⟩:=this
    have hall:=hr_svs h4
    obtain ⟨vs',e1',h5⟩:=hbv o _ (.tup (hs.map (·.2))) ho rfl (.tuple (us.map (·.2)).toArray) ⟨_,rfl,hall⟩
    have e2':us.map (·.2)=vs':=by
     have:=congrArg (fun v=>match v with | Value.tuple l=>l.toList | _=>[]) e1'
     simpa using this
    subst e2'
    exact ⟨b,vs,e,us,h1,h2,h3.tr ht,hr_back h4 h5⟩
 ·intro o ob b ho hf hb
  rcases hN.live o ob ho with ⟨_,e1,_⟩ | ⟨o',e1,e2⟩
  ·rw [e1] at hb;cases one_blk hb
  ·exact h.rng o' ob b e1 hf (e2▸hb)
 ·rcases hgh with hgh | hgh
  ·rw [hgh]
   refine K.Jst _ _ _ _ _ _ h.gh (Trx.d ⟨Ext.refl _ _,fun b _ hb=>hown b hb⟩) ?_ ?_
   ·rintro b ⟨o,ob,h1,h2,h3⟩
    exact ⟨h.dis o ob b h1 h3,h.rng o ob b h1 h2 h3⟩
   ·intro b hb
    obtain ⟨o,ob,h1,h2,h3⟩:=hown b hb
    exact h.blk_lt h1 h3
  ·exact hgh _ _ _ _
theorem dropOb_ne {x:Option (Option Ob)} {ob:Ob}:dropOb x≠some (some ob):=by
 cases x with
 | none=>intro h;cases h
 | some _=>intro h;cases h
def headLoc (s':ASt) (sl:List (Nat × Bool)) (β:Nat→Loc) (o:Nat):Loc :=
 if o∈hids sl then (match (s'.env (o - 100000)).v with | .s (.os o')=>β o' | _=>⟨none,.slice none 0 0,[]⟩) else β o
theorem headLoc_hid {sl:List (Nat × Bool)} {t:Nat} (h:(t,true)∈sl):headLoc s' sl β (hid t)=(match (s'.env t).v with | .s (.os o')=>β o' | _=>⟨none,.slice none 0 0,[]⟩):=by
 have hm:hid t∈hids sl:=List.mem_map.2 ⟨(t,true),List.mem_filter.2 ⟨h,rfl⟩,rfl⟩
 unfold headLoc
 rw [if_pos hm]
 simp only [hid,Nat.add_sub_cancel_left]
theorem headLoc_other {sl:List (Nat × Bool)} {o:Nat} (h:o∉hids sl):headLoc s' sl β o=β o:=by
 unfold headLoc;rw [if_neg h]
theorem nodup_flatMap_inj {α:Type} {f:α→List Nat}:∀ {l:List α},(l.flatMap f).Nodup→∀ {x y:α} {o:Nat},x∈l→y∈l→o∈f x→o∈f y→x=y
 | [],_,x,_,_,hx,_,_,_=>by cases hx
 | z::l,h,x,y,o,hx,hy,h1,h2=>by
  rw [List.flatMap_cons,List.nodup_append] at h
  obtain ⟨_,hl,hd⟩:=h
  rcases List.mem_cons.1 hx with ex | hx'<;>rcases List.mem_cons.1 hy with ey | hy'
  ·rw [ex,ey]
  ·subst ex;exact absurd rfl (hd o h1 o (List.mem_flatMap.2 ⟨y,hy',h2⟩))
  ·subst ey;exact absurd rfl (hd o h2 o (List.mem_flatMap.2 ⟨x,hx',h1⟩))
  ·exact nodup_flatMap_inj hl hx' hy' h1 h2
theorem SV.keep_rep {L:List Nat} (hL:∀ o∈L,∃ ob,s'.obs o=some (some ob)∧head.obs o=some (some ob)∧β' o=β o) (ht:Tr (Mset K.Mg s' β) w (Mset K.Mg head β') w) {v:SV} {u:Value} (hw:v.within L=true)
  (h:SVRep K.P s' β w (Mset K.Mg s' β) v u):SVRep K.P head β' w (Mset K.Mg head β') v u:=by
 cases v with
 | d t x=>exact VRep.tr h ht
 | nl e t=>exact h
 | mp o =>
  obtain ⟨ob,h1,h2,h3⟩:=hL o (memN_iff.1 hw)
  simp only [SVRep,h1] at h
  simp only [SVRep,h2,h3]
  exact h
 | ptr o p =>
  obtain ⟨ob,h1,h2,h3⟩:=hL o (memN_iff.1 hw)
  simp only [SVRep,h1] at h
  simp only [SVRep,h2,h3]
  exact h
 | os o =>
  obtain ⟨ob,h1,h2,h3⟩:=hL o (memN_iff.1 hw)
  simp only [SVRep,h1] at h
  simp only [SVRep,h2,h3]
  exact h
theorem AV.keep_rep {L:List Nat} (hL:∀ o∈L,∃ ob,s'.obs o=some (some ob)∧head.obs o=some (some ob)∧β' o=β o) (ht:Tr (Mset K.Mg s' β) w (Mset K.Mg head β') w) {v:AV} {u:Value} (hw:v.within L=true)
  (h:AVRep K.P s' β w (Mset K.Mg s' β) v u):AVRep K.P head β' w (Mset K.Mg head β') v u:=by
 have key:∀ {l:List SV} {us:List Value},l.all (SV.within L)=true→All2 (SVRep K.P s' β w (Mset K.Mg s' β)) l us→All2 (SVRep K.P head β' w (Mset K.Mg head β')) l us:=by
  intro l
  induction l with
  | nil=>intro us _ h;cases us with
   | nil=>trivial
   | cons _ _=>exact h.elim
  | cons v l ih =>
   intro us hl h
   cases us with
   | nil=>exact h.elim
   | cons u us =>
    simp only [List.all_cons,Bool.and_eq_true] at hl
    exact ⟨SV.keep_rep hL ht hl.1 h.1,ih hl.2 h.2⟩
 cases v with
 | un=>trivial
 | yl _=>exact h
 | mv _ _ _=>obtain ⟨u,rfl,h⟩:=h;exact ⟨u,rfl,VRep.tr h ht⟩
 | bm _ _=>obtain ⟨u,rfl,h⟩:=h;exact ⟨u,rfl,SV.keep_rep hL ht hw h⟩
 | ag t x hs=>obtain ⟨vs,us,h1,h2,h3⟩:=h;exact ⟨vs,us,h1,h2.tr ht,hr_back h3 (key hw (hr_svs h3))⟩
 | ex _=>exact h
 | sn _ _ _ _=>cases hw
 | rqe _ _ _=>cases hw
 | ri _ _ _=>cases hw
 | rie _ _ _ _ _=>cases hw
 | s v=>exact SV.keep_rep hL ht hw h
 | clo f c=>obtain ⟨vs,rfl,h⟩:=h;exact ⟨vs,rfl,key hw h⟩
 | tup l=>obtain ⟨vs,rfl,h⟩:=h;exact ⟨vs,rfl,key hw h⟩
theorem AV.keep_repH {L:List Nat} (hL:∀ o∈L,∃ ob,s'.obs o=some (some ob)∧head.obs o=some (some ob)∧β' o=β o) (ht:Tr (Mset K.Mg s' β) w (Mset K.Mg head β') w) {v:AV} {u:Value} (hw:v.withinH L=true)
  (h:AVRep K.P s' β w (Mset K.Mg s' β) v u):AVRep K.P head β' w (Mset K.Mg head β') v u:=by
 cases v with
 | ri o g i =>
  obtain ⟨ob,h1,h2,h3⟩:=hL o (memN_iff.1 hw)
  simp only [AVRep,h1] at h
  simp only [AVRep,h2,h3]
  exact h
 | rie o g i j t =>
  obtain ⟨ob,h1,h2,h3⟩:=hL o (memN_iff.1 hw)
  simp only [AVRep,h1] at h
  simp only [AVRep,h2,h3]
  exact h
 | un=>exact AV.keep_rep hL ht hw h
 | yl _=>exact AV.keep_rep hL ht hw h
 | mv _ _ _=>exact AV.keep_rep hL ht hw h
 | bm _ _=>exact AV.keep_rep hL ht hw h
 | ag _ _ _=>exact AV.keep_rep hL ht hw h
 | ex _=>exact AV.keep_rep hL ht hw h
 | sn _ _ _ _=>exact AV.keep_rep hL ht hw h
 | rqe _ _ _=>exact AV.keep_rep hL ht hw h
 | s _=>exact AV.keep_rep hL ht hw h
 | clo _ _=>exact AV.keep_rep hL ht hw h
 | tup _=>exact AV.keep_rep hL ht hw h
theorem keepOk_live {ann:LoopAnn} (h:keepOk s ann=true) {o:Nat} (ho:o∈ann.keep):∃ ob,s.obs o=some (some ob)∧isGh ob=false∧∀ v,ob.inner=some v→v.within (ann.objs++ann.keep)=true:=by
 simp only [keepOk,List.all_eq_true] at h
 have:=h o ho
 split at this
 ·rename_i v hv
  exact ⟨_,hv,rfl,fun v' e=>by cases e;exact this⟩
 ·rename_i hv
  exact ⟨_,hv,rfl,fun v' e=>by cases e;exact this⟩
 ·cases this
 ·rename_i ob h1 h2 h3 h4
  refine ⟨ob,‹_›,?_,fun v e=>?_⟩
  ·cases ob<;>first | rfl | exact absurd rfl (h3 _ _)
  ·cases ob<;>first | (exact absurd rfl (h1 _)) | (exact absurd rfl (h2 _ _ _)) | cases e
 ·cases this
theorem RelB.posne (h:RelB K s a w β):∀ o b,K.pos o=some b→s.obs o≠none:=by
 intro o b ho hn
 rcases h.pos o b ho with h1 | ⟨_,h1,_⟩<;>rw [hn] at h1<;>cases h1
theorem loop_head (hcx:CxOk K.P cx) (hf:Fit K cx) {nt:Nat} {ann:LoopAnn} {ds:List Nat} {hs:List Shp} {x:Shps hs} (h:RelB K s' a w β) (hn':NoG s') (hn:NoG s₀) (hann:annOk cx.yl ann ds=true) (hent:entryOk s' ann=true) (hkok:keepOk s₀ ann=true)
  (hm:Match ann.slots ann.objs hs) (hc:collect cx s' ann.slots ann.objs hs=some x) (hps:∀ o b,K.pos o=some b→s₀.obs o≠none)
  (hkeep:∀ o∈ann.keep,∀ ob,s₀.obs o=some (some ob)→s'.obs o=some (some ob))
  (henv:∀ t,t∉ds→t<nt→(s₀.env t).v.withinH (ann.objs++ann.keep)=true→isUn (s₀.env t).v=false→s'.env t=s₀.env t) :
  ∃ β',RelB K (spread (headBase nt s₀ ann ds) ann.slots ann.objs hs x) a w β'∧Tr (Mset K.Mg s' β) w (Mset K.Mg (spread (headBase nt s₀ ann ds) ann.slots ann.objs hs x) β') w:=by
 simp only [annOk,Bool.and_eq_true] at hann
 obtain ⟨hyl,hslots,hn1,hn2⟩:=hann
 have hn2:(hids ann.slots++(ann.objs++ann.keep)).Nodup:=nodup_of hn2
 have hn3:(hids ann.slots++ann.objs).Nodup:=by
  rw [←List.append_assoc] at hn2
  exact (List.nodup_append.1 hn2).1
 obtain ⟨f1,f2,f3,f4⟩:=head_fact (base:=headBase nt s₀ ann ds) hm hc (nodup_of hn1) hn3
 generalize spread (headBase nt s₀ ann ds) ann.slots ann.objs hs x=head at f1 f2 f3 f4 ⊢
 simp only [entryOk,Bool.and_eq_true,List.all_eq_true,Bool.not_eq_true'] at hent
 obtain ⟨⟨hd1,hd2⟩,hd3⟩:=hent
 have hd1:=nodup_of hd1
 have hnh:∀ o∈ann.objs++ann.keep,o∉hids ann.slots:=fun o ho hh=>(List.nodup_append.1 hn2).2.2 o hh o ho rfl
 have hno:∀ o∈ann.keep,o∉ann.objs:=fun o ho hh=>by
  have:=(List.nodup_append.1 hn2).2.1
  exact (List.nodup_append.1 this).2.2 o hh o ho rfl
 have src:∀ o ob,head.obs o=some (some ob)→((isRow ob=true∧headLoc s' ann.slots β o=⟨none,.slice none 0 0,[]⟩∧∃ e t,ob=.row false e t []) ∨
   ∃ o',s'.obs o'=some (some ob)∧headLoc s' ann.slots β o=β o'∧((∃ t,(t,true)∈ann.slots∧o=hid t∧o'∈slotId s' (t,true))∨(o'=o∧o∈ann.objs++ann.keep))):=by
  intro o ob ho
  by_cases hh:o∈hids ann.slots
  ·obtain ⟨t,ht,rfl⟩:=mem_hids hh
   rcases f1 _ ht with ⟨hf,_⟩ | ⟨_,e₀,e,l,k1,k2,k3⟩ | ⟨_,ob',o',k1,k2,k4,k5,k6⟩
   ·cases hf
   rotate_left
   ·have k2:head.obs (hid t)=_:=k2
    rw [k2] at ho;cases ho
    right
    have k4:(s'.env t).v=_:=k4
    exact ⟨o',k5,by rw [headLoc_hid ht,k4],.inl ⟨t,ht,rfl,by simp [slotId,k4]⟩⟩
   ·have k2:head.obs (hid t)=_:=k2
    rw [k2] at ho;cases ho
    rcases k3 with ⟨e',k4,rfl⟩ | ⟨o',k4,k5⟩
    ·left
     have k4:(s'.env t).v=_:=k4
     exact ⟨rfl,by rw [headLoc_hid ht,k4],_,_,rfl⟩
    ·right
     have k4:(s'.env t).v=_:=k4
     exact ⟨o',k5,by rw [headLoc_hid ht,k4],.inl ⟨t,ht,rfl,by simp [slotId,k4]⟩⟩
  ·by_cases hob:o∈ann.objs
   ·obtain ⟨ob',k1,k2,k3⟩:=f2 o hob
    rw [k1] at ho;cases ho
    exact .inr ⟨o,k2,headLoc_other hh,.inr ⟨rfl,List.mem_append.2 (.inl hob)⟩⟩
   ·rw [f4 o hh hob] at ho
    simp only [headBase] at ho
    cases hk:memN o ann.keep with
    | false=>rw [hk] at ho;exact absurd ho dropOb_ne
    | true =>
     rw [hk] at ho
     have ho:s₀.obs o=some (some ob):=ho
     have hk:=memN_iff.1 hk
     exact .inr ⟨o,hkeep o hk ob ho,headLoc_other hh,.inr ⟨rfl,List.mem_append.2 (.inr hk)⟩⟩
 have hN:Names s' β head (headLoc s' ann.slots β):=by
  refine ⟨fun o ob ho=>?_,?_⟩
  ·rcases src o ob ho with h1 | ⟨o',h1,h2,_⟩
   ·exact .inl h1
   ·exact .inr ⟨o',h1,h2⟩
  ·intro o₁ o₂ ob₁ ob₂ b h1 h2 h3 h4
   rcases src o₁ ob₁ h1 with ⟨_,e,_⟩ | ⟨p₁,k1,k2,k3⟩
   ·rw [e] at h3;cases one_blk h3
   rcases src o₂ ob₂ h2 with ⟨_,e,_⟩ | ⟨p₂,q1,q2,q3⟩
   ·rw [e] at h4;cases one_blk h4
   rw [k2] at h3;rw [q2] at h4
   have hp:=h.inj p₁ p₂ _ _ b k1 q1 h3 h4
   subst hp
   have hap:=List.nodup_append.1 hd1
   rcases k3 with ⟨t₁,t1,rfl,t2⟩ | ⟨e1,t2⟩<;>rcases q3 with ⟨t₂,u1,rfl,u2⟩ | ⟨e2,u2⟩
   ·have:=nodup_flatMap_inj hap.1 t1 u1 t2 u2
    cases this;rfl
   ·exact absurd rfl (hap.2.2 p₁ (List.mem_flatMap.2 ⟨_,t1,t2⟩) p₁ (e2▸u2))
   ·exact absurd rfl (hap.2.2 p₁ (List.mem_flatMap.2 ⟨_,u1,u2⟩) p₁ (e1▸t2))
   ·rw [←e1,←e2]
 have ht:=hN.tr h
 have hLL:∀ o∈ann.objs++ann.keep,∃ ob,s'.obs o=some (some ob)∧head.obs o=some (some ob)∧headLoc s' ann.slots β o=β o:=by
  intro o ho
  rcases List.mem_append.1 ho with ho | ho
  ·obtain ⟨ob,k1,k2,_⟩:=f2 o ho
   exact ⟨ob,k2,k1,headLoc_other (hnh o (List.mem_append.2 (.inl ho)))⟩
  ·have hh:=hnh o (List.mem_append.2 (.inr ho))
   obtain ⟨ob,hob,_⟩:=keepOk_live hkok ho
   refine ⟨ob,hkeep o ho ob hob,?_,headLoc_other hh⟩
   rw [f4 o hh (hno o ho)]
   simp only [headBase,memN_iff.2 ho,cond_true]
   exact hob
 have hpos:∀ o p,K.pos o=some p→head.obs o=some none∨∃ ob,head.obs o=some (some ob)∧p ob (headLoc s' ann.slots β o):=by
  intro o b ho
  have hh:o∉hids ann.slots:=by
   intro hh
   obtain ⟨t,ht,rfl⟩:=mem_hids hh
   have h1:=K.posr _ _ ho
   have h2:=List.all_eq_true.1 hslots (t,true) ht
   simp only [Bool.and_eq_true] at h2
   have h2:=Nat.le_of_ble_eq_true h2.2
   simp only [hid] at h1
   omega
  have hin:o∈ann.objs++ann.keep→head.obs o=some none∨∃ ob,head.obs o=some (some ob)∧b ob (headLoc s' ann.slots β o):=by
   intro hm
   obtain ⟨ob,h1,h2,h3⟩:=hLL o hm
   rcases h.pos o b ho with h4 | ⟨ob',h4,h5⟩
   ·rw [h1] at h4;cases h4
   ·rw [h1] at h4;cases h4
    exact .inr ⟨_,h2,by rw [h3];exact h5⟩
  by_cases hob:o∈ann.objs
  ·exact hin (List.mem_append.2 (.inl hob))
  ·by_cases hk:o∈ann.keep
   ·exact hin (List.mem_append.2 (.inr hk))
   ·left
    rw [f4 o hh hob]
    simp only [headBase]
    cases hkm:memN o ann.keep with
    | true=>exact absurd (memN_iff.1 hkm) hk
    | false =>
     have:=hps o b ho
     show dropOb (s₀.obs o)=some none
     cases hs0:s₀.obs o with
     | none=>exact absurd hs0 this
     | some _=>rfl
 refine ⟨_,head_rel h hN ?_ ?_ (fun t=>?_) hpos,ht⟩
 ·intro o obv v ho hinn u hu
  have hmem:v.within (ann.objs++ann.keep)=true:=by
   by_cases hh:o∈hids ann.slots
   ·obtain ⟨t,ht,rfl⟩:=mem_hids hh
    rcases f1 _ ht with ⟨hf,_⟩ | ⟨_,e₀,e,l,k1,k2,k3⟩ | ⟨_,ob',o',k1,k2,k4,k5,_,k6⟩
    ·cases hf
    rotate_left
    ·rw [show head.obs (hid t)=_ from k2] at ho;cases ho
     cases obv<;>first | (cases k6;done) | (cases hinn;done)
    ·rw [show head.obs (hid t)=_ from k2] at ho;cases ho;cases hinn
   ·by_cases hob:o∈ann.objs
    ·obtain ⟨ob',k1,k2,k3⟩:=f2 o hob
     rw [k1] at ho;cases ho
     have:=hd3 o hob
     simp only [innerIn,k2,hinn] at this
     exact this
    ·rw [f4 o hh hob] at ho
     simp only [headBase] at ho
     cases hk:memN o ann.keep with
     | false=>rw [hk] at ho;exact absurd ho dropOb_ne
     | true =>
      rw [hk] at ho
      obtain ⟨ob,hob2,_,hw⟩:=keepOk_live hkok (memN_iff.1 hk)
      rw [show s₀.obs o=_ from ho] at hob2;cases hob2
      exact hw v hinn
  exact AV.keep_rep hLL ht hmem hu
 ·have hy:=hf.yl
  cases hyy:cx.yl with
  | none=>rw [hyy] at hy;exact .inr hy.1
  | some y =>
   rw [hyy] at hy hyl
   obtain ⟨ob,k1,k2,_⟩:=f2 y.gid (memN_iff.1 hyl)
   left
   rw [hy.gid,k1,k2]
 have hold:∀ t,AVRep K.P s' β w (Mset K.Mg s' β) (s'.env t).v (a.tmps.getD t undef):=fun t=>(h.env t).1 (by rw [hn' t];intro x hx;cases hx)
 by_cases hts:t∈ann.slots.map (·.1)
 ·obtain ⟨⟨t',r⟩,hts',rfl⟩:=List.mem_map.1 hts
  rcases f1 _ hts' with ⟨hr,e,v,y,k1,k2,k3⟩ | ⟨hr,e₀,e,l,k1,k2,k3⟩ | ⟨hr,ob,o',k1,k2,k4,k5,k6⟩
  rotate_left 2
  ·have hr:r=true:=hr
   subst hr
   rw [show head.env t'=_ from k1]
   refine ⟨fun _=>?_,fun hh=>absurd (fun x hx=>by cases hx) hh⟩
   simp only [AVRep,SVRep]
   rw [show head.obs (hid t')=_ from k2]
   refine ⟨k6.2,?_⟩
   rw [headLoc_hid hts']
   have hv:=hold t'
   have k4:(s'.env t').v=_:=k4
   rw [k4] at hv ⊢
   simp only [AVRep,SVRep,k5] at hv
   exact hv.2
  ·have hr:r=false:=hr
   subst hr
   rw [show head.env t'=_ from k3]
   refine ⟨fun _=>?_,fun hh=>absurd (fun x hx=>by cases hx) hh⟩
   refine castD_vrep k2 (AV.dv_rep hcx h (hold t') k1 ⟨fun b hb=>?_,fun o ho b hb hM=>?_⟩)
   ·rcases hb with hb | ⟨o,ob,h1,h2,h3⟩
    ·exact .inl hb
    ·rcases hN.live o ob h1 with ⟨_,e1,_⟩ | ⟨o',e1,e2⟩
     ·rw [e1] at h3;cases one_blk h3
     ·exact .inr ⟨o',ob,e1,h2,e2▸h3⟩
   ·obtain ⟨ob,hob⟩:=open_live ho
    rcases hM with hM | ⟨o₁,ob₁,h1,h2,h3⟩
    ·exact h.dis o ob b hob hb hM
    ·rcases src o₁ ob₁ h1 with ⟨_,e1,_⟩ | ⟨p,q1,q2,q3⟩
     ·rw [e1] at h3;cases one_blk h3
     ·rw [q2] at h3
      have hp:=h.inj p o _ _ b q1 hob h3 hb
      subst hp
      have hmem:p∈ann.slots.flatMap (slotId s')++(ann.objs++ann.keep):=by
       rcases q3 with ⟨t₁,t1,_,t2⟩ | ⟨e1,t2⟩
       ·exact List.mem_append.2 (.inl (List.mem_flatMap.2 ⟨_,t1,t2⟩))
       ·exact List.mem_append.2 (.inr (e1▸t2))
      have:=hd2 p (List.mem_flatMap.2 ⟨(t',false),hts',ho⟩)
      rw [memN_iff.2 hmem] at this;cases this
  ·have hr:r=true:=hr
   subst hr
   rw [show head.env t'=_ from k1]
   refine ⟨fun _=>?_,fun hh=>absurd (fun x hx=>by cases hx) hh⟩
   simp only [AVRep,SVRep]
   rw [show head.obs (hid t')=_ from k2]
   refine ⟨rfl,?_⟩
   rw [headLoc_hid hts']
   have hv:=hold t'
   rcases k3 with ⟨e',k4,rfl⟩ | ⟨o',k4,k5⟩
   ·have k4:(s'.env t').v=_:=k4
    rw [k4] at hv ⊢
    exact hv
   ·have k4:(s'.env t').v=_:=k4
    rw [k4] at hv ⊢
    simp only [AVRep,SVRep,k5] at hv
    exact hv.2
 ·rw [f3 t hts]
  simp only [headBase]
  cases hcd:(memN t ds||(!(s₀.env t).v.withinH (ann.objs++ann.keep)||!Nat.ble (t+1) nt)) with
  | true=>exact ⟨fun _=>trivial,fun hh=>absurd (fun x hx=>by cases hx) hh⟩
  | false =>
   simp only [cond_false]
   refine ⟨fun _=>?_,fun hh=>absurd (by rw [hn t];intro x hx;cases hx) hh⟩
   simp only [Bool.or_eq_false_iff,Bool.not_eq_false'] at hcd
   obtain ⟨c1,c2,c3⟩:=hcd
   cases hu:isUn (s₀.env t).v with
   | true =>
    cases hv:(s₀.env t).v<;>rw [hv] at hu<;>first | trivial | cases hu
   | false =>
    have he:=henv t (fun hm=>by rw [memN_iff.2 hm] at c1;cases c1) (Nat.le_of_ble_eq_true c3) c2 hu
    have hv:=hold t
    rw [he] at hv
    exact AV.keep_repH hLL ht c2 hv
end
end Go.Sx
/-
 The symbolic layer,part 25b: rows in parts of boxes take the names that a loop's head gives them.
-/
namespace Go.Sx
section
variable {K:Ctx} {cx:Cx} {s s' head:ASt} {a:Act} {w:World} {β β':Nat→Loc}
def LikeP (ob ob':Ob):Prop:=(∀ p,inOb ob p→inOb ob' p∧obPos ob p=obPos ob' p)∧isRow ob=isRow ob'∧isMm ob=isMm ob'
theorem LikeP.refl (ob:Ob):LikeP ob ob:=⟨fun _ h=>⟨h,rfl⟩,rfl,rfl⟩
def CompatL (L:List Nat) (s:ASt) (β:Nat→Loc) (s':ASt) (β':Nat→Loc):Prop :=
 ∀ o∈L,(s.obs o=some none→s'.obs o=some none)∧∀ ob,s.obs o=some (some ob)→s'.obs o=some none∨∃ ob',s'.obs o=some (some ob')∧β' o=β o∧LikeP ob ob'
theorem SV.nextL {P:Program} {M M':Nat→Prop} {L:List Nat} (hc:CompatL L s β s' β') (ht:Tr M w M' w) {x:SV} {v:Value} (hw:x.within L=true) (h:SVRep P s β w M x v):SVRep P s' β' w M' x v:=by
 cases x with
 | d t x=>exact VRep.tr h ht
 | nl e t=>exact h
 | ptr o p =>
  obtain ⟨c1,c2⟩:=hc o (memN_iff.1 hw)
  simp only [SVRep] at h ⊢
  cases ho:s.obs o with
  | none=>simp only [ho] at h
  | some r =>
   cases r with
   | none=>rw [c1 ho];trivial
   | some ob =>
    simp only [ho] at h
    rcases c2 ob ho with h1 | ⟨ob',h1,h2,h3⟩
    ·rw [h1];trivial
    ·rw [h1]
     obtain ⟨hi,b,off,hb,hp,hv⟩:=h
     exact ⟨(h3.1 p hi).1,b,off,by rw [h2];exact hb,by rw [←(h3.1 p hi).2];exact hp,hv⟩
 | os o =>
  obtain ⟨c1,c2⟩:=hc o (memN_iff.1 hw)
  simp only [SVRep] at h ⊢
  cases ho:s.obs o with
  | none=>simp only [ho] at h
  | some r =>
   cases r with
   | none=>rw [c1 ho];trivial
   | some ob =>
    simp only [ho] at h
    rcases c2 ob ho with h1 | ⟨ob',h1,h2,h3⟩
    ·rw [h1];trivial
    ·rw [h1];exact ⟨by rw [←h3.2.1];exact h.1,by rw [h2];exact h.2⟩
 | mp o =>
  obtain ⟨c1,c2⟩:=hc o (memN_iff.1 hw)
  simp only [SVRep] at h ⊢
  cases ho:s.obs o with
  | none=>simp only [ho] at h
  | some r =>
   cases r with
   | none=>rw [c1 ho];trivial
   | some ob =>
    simp only [ho] at h
    rcases c2 ob ho with h1 | ⟨ob',h1,h2,h3⟩
    ·rw [h1];trivial
    ·rw [h1];exact ⟨by rw [←h3.2.2];exact h.1,by rw [h2];exact h.2⟩
theorem SV.nextLs {P:Program} {M M':Nat→Prop} {L:List Nat} (hc:CompatL L s β s' β') (ht:Tr M w M' w):∀ {l:List SV} {us:List Value},l.all (SV.within L)=true→All2 (SVRep P s β w M) l us→All2 (SVRep P s' β' w M') l us
 | [],[],_,_=>trivial
 | v::l,u::us,hl,h=>by
  simp only [List.all_cons,Bool.and_eq_true] at hl
  exact ⟨SV.nextL hc ht hl.1 h.1,SV.nextLs hc ht hl.2 h.2⟩
 | [],_::_,_,h=>h.elim
 | _::_,[],_,h=>h.elim
theorem AV.nextL {P:Program} {M M':Nat→Prop} {L:List Nat} (hc:CompatL L s β s' β') (ht:Tr M w M' w) {v:AV} {u:Value} (hw:v.within L=true) (h:AVRep P s β w M v u):AVRep P s' β' w M' v u:=by
 cases v with
 | un=>trivial
 | yl _=>exact h
 | mv _ _ _=>obtain ⟨u,rfl,h⟩:=h;exact ⟨u,rfl,VRep.tr h ht⟩
 | bm _ _=>obtain ⟨u,rfl,h⟩:=h;exact ⟨u,rfl,SV.nextL hc ht hw h⟩
 | ag t x hs=>obtain ⟨vs,us,h1,h2,h3⟩:=h;exact ⟨vs,us,h1,h2.tr ht,hr_back h3 (SV.nextLs hc ht hw (hr_svs h3))⟩
 | ex _=>exact h
 | sn _ _ _ _=>cases hw
 | rqe _ _ _=>cases hw
 | ri _ _ _=>cases hw
 | rie _ _ _ _ _=>cases hw
 | s v=>exact SV.nextL hc ht hw h
 | clo f c=>obtain ⟨vs,rfl,h⟩:=h;exact ⟨vs,rfl,SV.nextLs hc ht hw h⟩
 | tup l=>obtain ⟨vs,rfl,h⟩:=h;exact ⟨vs,rfl,SV.nextLs hc ht hw h⟩
theorem hr_set {P:Program} {M M':Nat→Prop} {L:List Nat} (hc:CompatL L s β s' β') (ht:Tr M w M' w) {t:Ty} {n:Nat} {q:List Stp} {sv nv:SV} (hn:∀ u,SVRep P s β w M sv u→SVRep P s' β' w M' nv u) :
  ∀ {hs:List (List Stp × SV)} {us:List (Nat × Value)} {k:Nat},All2 (HR P s β w M t n) hs us→(hs.map (·.2)).all (SV.within L)=true→nth hs k=some (q,sv)→All2 (HR P s' β' w M' t n) (hs.set k (q,nv)) us
 | [],[],k,_,_,h=>by cases h
 | h::hs,u::us,0,hh,hl,hk=>by
  simp only [List.map_cons,List.all_cons,Bool.and_eq_true] at hl
  simp only [nth,Option.some.injEq] at hk
  subst hk
  obtain ⟨⟨g1,g2,g3,g4⟩,hh⟩:=hh
  exact ⟨⟨g1,g2,g3,hn _ g4⟩,hr_back hh (SV.nextLs hc ht hl.2 (hr_svs hh))⟩
 | h::hs,u::us,k+1,hh,hl,hk=>by
  simp only [List.map_cons,List.all_cons,Bool.and_eq_true] at hl
  obtain ⟨⟨g1,g2,g3,g4⟩,hh⟩:=hh
  exact ⟨⟨g1,g2,g3,SV.nextL hc ht hl.1 g4⟩,hr_set hc ht hn hh hl.2 hk⟩
 | [],_::_,_,h,_,_=>h.elim
 | _::_,[],_,h,_,_=>h.elim
theorem isAt_iff {r:Option Nat} (z:Nat):isAt r z=true↔r=some z:=by
 cases r with
 | none=>simp [isAt]
 | some r'=>simp only [isAt,Nat.beq_eq,Option.some.injEq];exact eq_comm
def Up (src nr:Ob):Prop:=(∃ e te l,src=.row false e te l∧(nr=.row false e te l∨nr=.rq false e te l))∨(∃ e te l,src=.rq false e te l∧nr=.rq false e te l)∨∃ g e e2 te l,src=.rr false g e e2 te l∧nr=.rr false 0 e e2 te l
theorem Up.facts {src nr:Ob} (h:Up src nr):(obFz src=false∧isRow src=true)∧obFz nr=false∧isRow nr=true:=by
 rcases h with ⟨e,te,l,rfl,rfl | rfl⟩ | ⟨e,te,l,rfl,rfl⟩ | ⟨g,e,e2,te,l,rfl,rfl⟩<;>exact ⟨⟨rfl,rfl⟩,rfl,rfl⟩
theorem Up.rr {src nr:Ob} (h:Up src nr) (hn:isRr nr=false):isRr src=false:=by
 rcases h with ⟨e,te,l,rfl,rfl | rfl⟩ | ⟨e,te,l,rfl,rfl⟩ | ⟨g,e,e2,te,l,rfl,rfl⟩<;>first | rfl | cases hn
theorem Up.rep {P:Program} {s₁ s₂:ASt} {β₁ β₂:Nat→Loc} {M M':Nat→Prop} {L:Loc} {src nr:Ob} (h:Up src nr) (hr:ObRep P s₁ β₁ w M L src) (ht:Tr M w M' w):ObRep P s₂ β₂ w M' L nr:=by
 rcases h with ⟨e,te,l,rfl,rfl | rfl⟩ | ⟨e,te,l,rfl,rfl⟩ | ⟨g,e,e2,te,l,rfl,rfl⟩
 rotate_left 3
 ·exact hr
 ·obtain ⟨g1,g2,vss,g3,g4⟩:=hr
  exact ⟨g1,g2,vss,g3.mono fun _ _ h=>h.tr ht,g4⟩
 ·obtain ⟨g1,g2,vss,g3,g4⟩:=hr
  exact ⟨g1,g2,0,vss,g3.mono fun _ _ h=>h.tr ht,ownsQ_of g4⟩
 ·obtain ⟨g1,g2,k,vss,g3,g4⟩:=hr
  exact ⟨g1,g2,k,vss,g3.mono fun _ _ h=>h.tr ht,g4⟩
theorem qRow_cases (qs:List Nat) (p e:Nat) (t:Ty) (l:List t.D):qRow qs p e t l=.row false e t l∨qRow qs p e t l=.rq false e t l:=by
 unfold qRow
 cases memN p qs with
 | true=>exact .inr rfl
 | false=>exact .inl rfl
theorem nilOb_cases (cx:Cx) (p e:Nat) (t:Ty):(nilOb cx p e t=.row false e t []∨nilOb cx p e t=.rq false e t [])∨∃ e2 t',t=.sl t'∧t'.flat=true∧nilOb cx p e t=.rr false 0 e e2 t' []:=by
 cases t
 case sl t =>
  simp only [nilOb]
  cases hc:(memN p cx.rrs&&t.flat) with
  | true =>
   simp only [Bool.and_eq_true] at hc
   exact .inr ⟨_,t,rfl,hc.2,rfl⟩
  | false=>exact .inl (qRow_cases _ _ _ _ _)
 all_goals exact .inl (qRow_cases _ _ _ _ _)
theorem renAt_rel (h:RelB K s a w β) (hJ:∀ g G M w,K.J g G M w) {L:List Nat} {o p:Nat} (hp:p≤199998) (hnl:liveB s p=false) (hoL:o∈L) (hpL:p∉L) (hin:∀ x∈L,innerIn s L x=true)
  {t:Ty} {x:t.D} {hs:List (List Stp × SV)} {k:Nat} {q:List Stp} {sv:SV} (ho:s.obs o=some (some (.bp t x hs))) (hk:nth hs k=some (q,sv)) {r:Option Nat} {nr:Ob}
  (hr:(∃ r',r=some r'∧r'≠p∧sv=.os r'∧∃ src,s.obs r'=some (some src)∧Up src nr)∨(r=none∧∃ e te,sv=.nl e te∧((nr=.row false e te []∨nr=.rq false e te [])∨∃ e2 t',te=.sl t'∧t'.flat=true∧nr=.rr false 0 e e2 t' []))) :
  ∃ β',RelB K (renAt s L o p r (.bp t x (hs.set k (q,.os p))) nr) a w β':=by
 have hnr:obFz nr=false∧isRow nr=true:=by
  rcases hr with ⟨_,_,_,_,src,_,hu⟩ | ⟨_,e,te,_,(rfl | rfl) | ⟨_,_,_,_,rfl⟩⟩
  ·exact hu.facts.2
  ·exact ⟨rfl,rfl⟩
  ·exact ⟨rfl,rfl⟩
  ·exact ⟨rfl,rfl⟩
 have hop:o≠p:=fun e=>hpL (e▸hoL)
 have hro:r≠some o:=by
  rintro rfl
  rcases hr with ⟨r',e1,_,_,src,e2,hu⟩ | ⟨e1,_⟩
  ·cases e1;rw [ho] at e2;cases e2
   have:=hu.facts.1.2
   cases this
  ·cases e1
 have hrp:r≠some p:=by
  rintro rfl
  rcases hr with ⟨r',e1,e2,_⟩ | ⟨e1,_⟩
  ·cases e1;exact e2 rfl
  ·cases e1
 obtain ⟨lp,hlp⟩:∃ lp:Loc,lp=(match r with | some r'=>β r' | none=>⟨none,.slice none 0 0,[]⟩):=⟨_,rfl⟩
 obtain ⟨β',hβ⟩:∃ β':Nat→Loc,β'=fun z=>if z=p then lp else β z:=⟨_,rfl⟩
 have hβp:β' p=lp:=by rw [hβ];simp
 have hβo:∀ z,z≠p→β' z=β z:=fun z hz=>by rw [hβ];simp [hz]
 obtain ⟨head,hhd⟩:∃ head,head=renAt s L o p r (.bp t x (hs.set k (q,.os p))) nr:=⟨_,rfl⟩
 rw [←hhd]
 have hd_p:head.obs p=some (some nr):=by
  rw [hhd];simp [renAt]
 have isR:∀ z,isAt r z=true↔r=some z:=isAt_iff
 have hd_r:∀ z,r=some z→head.obs z=some none:=by
  intro z hz
  have h1:Nat.beq z p=false:=by
   cases hb:Nat.beq z p with
   | false=>rfl
   | true=>have:=Nat.eq_of_beq_eq_true hb;subst this;exact absurd hz hrp
  rw [hhd];simp only [renAt,h1,(isR z).2 hz,cond_true,cond_false]
 have nR:∀ z,r≠some z→isAt r z=false:=by
  intro z hz
  cases hb:isAt r z with
  | false=>rfl
  | true=>exact absurd ((isR z).1 hb) hz
 have nB:∀ {y z:Nat},y≠z→Nat.beq y z=false:=by
  intro y z hyz
  cases hb:Nat.beq y z with
  | false=>rfl
  | true=>exact absurd (Nat.eq_of_beq_eq_true hb) hyz
 have hd_o:head.obs o=some (some (.bp t x (hs.set k (q,.os p)))):=by
  rw [hhd];simp only [renAt,nB hop,nR o hro,cond_false];simp
 have hd_z:∀ z,z≠p→r≠some z→z≠o→head.obs z=cond (memN z L) (s.obs z) (dropOb (s.obs z)):=by
  intro z h1 h2 h3
  rw [hhd];simp only [renAt,nB h1,nR z h2,nB h3,cond_false]
 have src:∀ z ob,head.obs z=some (some ob)→(z=p∧ob=nr)∨(z=o∧ob=.bp t x (hs.set k (q,.os p)))∨(z∈L∧z≠p∧z≠o∧r≠some z∧s.obs z=some (some ob)):=by
  intro z ob hz
  by_cases h1:z=p
  ·subst h1;rw [hd_p] at hz;cases hz;exact .inl ⟨rfl,rfl⟩
  by_cases h2:r=some z
  ·rw [hd_r z h2] at hz;cases hz
  by_cases h3:z=o
  ·subst h3;rw [hd_o] at hz;cases hz;exact .inr (.inl ⟨rfl,rfl⟩)
  rw [hd_z z h1 h2 h3] at hz
  cases hm:memN z L with
  | true=>rw [hm] at hz;exact .inr (.inr ⟨memN_iff.1 hm,h1,h3,h2,hz⟩)
  | false=>rw [hm] at hz;exact absurd hz dropOb_ne
 have src':∀ z ob,head.obs z=some (some ob)→β' z=⟨none,.slice none 0 0,[]⟩∨∃ z' ob',s.obs z'=some (some ob')∧β' z=β z'∧obFz ob'=obFz ob∧((z=p∧r=some z')∨(z'=z∧r≠some z)):=by
  intro z ob hz
  rcases src z ob hz with ⟨rfl,rfl⟩ | ⟨rfl,rfl⟩ | ⟨_,h2,_,h4,h5⟩
  ·rcases hr with ⟨r',rfl,_,_,src,e2,hu⟩ | ⟨rfl,_,_⟩
   ·exact .inr ⟨r',_,e2,by rw [hβp,hlp],by rw [hu.facts.1.1,hnr.1],.inl ⟨rfl,rfl⟩⟩
   ·exact .inl (by rw [hβp,hlp])
  ·exact .inr ⟨z,_,ho,hβo z hop,rfl,.inr ⟨rfl,hro⟩⟩
  ·exact .inr ⟨z,_,h5,hβo z h2,rfl,.inr ⟨rfl,h4⟩⟩
 have hown:∀ b,Own head β' b→Own s β b:=by
  rintro b ⟨z,ob,h1,h2,h3⟩
  rcases src' z ob h1 with e1 | ⟨z',ob',e1,e2,e3,_⟩
  ·rw [e1] at h3;cases one_blk h3
  ·exact ⟨z',ob',e1,e3.trans h2,e2▸h3⟩
 have ht:Tr (Mset K.Mg s β) w (Mset K.Mg head β') w:=⟨.refl _ _,fun b _ hb=>hb.imp id (hown b)⟩
 have hc:CompatL L s β head β':=by
  intro z hz
  have hzp:z≠p:=fun e=>hpL (e▸hz)
  refine ⟨fun hd=>?_,fun ob hob=>?_⟩
  ·by_cases h2:r=some z
   ·exact hd_r z h2
   by_cases h3:z=o
   ·subst h3;rw [ho] at hd;cases hd
   rw [hd_z z hzp h2 h3,memN_iff.2 hz];exact hd
  ·by_cases h2:r=some z
   ·exact .inl (hd_r z h2)
   by_cases h3:z=o
   ·subst h3;rw [ho] at hob;cases hob
    exact .inr ⟨_,hd_o,hβo z hzp,fun _ h=>⟨h,rfl⟩,rfl,rfl⟩
   ·exact .inr ⟨ob,by rw [hd_z z hzp h2 h3,memN_iff.2 hz];exact hob,hβo z hzp,.refl _⟩
 have hwin:∀ z∈L,∀ ob v,s.obs z=some (some ob)→ob.inner=some v→v.within L=true:=by
  intro z hz ob v h1 h2
  have:=hin z hz
  simp only [innerIn,h1,h2] at this
  exact this
 refine ⟨β',?_⟩
 refine ⟨h.frame,h.mg,?_,?_,?_,?_,?_,h.size,h.defs,h.dnd,h.nod,h.pins,hJ _ _ _ _,h.fix,?_,?_⟩
 rotate_left 6
 ·intro z ob hz hr0
  rcases src z ob hz with ⟨rfl,rfl⟩ | ⟨rfl,rfl⟩ | ⟨h1,h2,h3,h4,h5⟩
  ·rcases hr with ⟨r',rfl,_,_,src,e2,hu⟩ | ⟨rfl,_,_⟩
   ·rw [hβp,hlp];exact h.sb r' _ e2 (hu.rr hr0)
   ·rw [hβp,hlp]
  ·rw [hβo z hop];exact h.sb z _ ho rfl
  ·rw [hβo z h2];exact h.sb z ob h5 hr0
 ·intro z ob b hz hb
  rcases src' z ob hz with e1 | ⟨z',ob',e1,e2,_⟩
  ·rw [e1] at hb;cases one_blk hb
  ·exact h.dis z' ob' b e1 (e2▸hb)
 ·intro z ob hz
  rcases src z ob hz with ⟨rfl,rfl⟩ | ⟨rfl,rfl⟩ | ⟨h1,h2,h3,h4,h5⟩
  ·rcases hr with ⟨r',rfl,_,_,src,e2,hu⟩ | ⟨rfl,e,te,_,(rfl | rfl) | ⟨_,_,_,hfl,rfl⟩⟩
   rotate_left 3
   ·rw [hβp,hlp]
    exact ⟨⟨hfl,by simp⟩,rfl,⟨by simp,.inl ⟨rfl,rfl⟩⟩,by simp,List.nodup_nil,trivial⟩
   ·rw [hβp,hlp]
    exact hu.rep (h.ob r' _ e2) ht
   ·rw [hβp,hlp]
    exact ⟨by simp,rfl,[],trivial,by simp,.inl ⟨rfl,rfl⟩⟩
   ·rw [hβp,hlp]
    exact ⟨by simp,rfl,0,[],trivial,by simp,.inl ⟨rfl,rfl⟩⟩
  ·rw [hβo z hop]
   obtain ⟨b,vs,e',us,g1,g2,g3,g4⟩:=h.ob z _ ho
   refine ⟨b,vs,e',us,g1,g2,g3.tr ht,hr_set hc ht (fun u hu=>?_) g4 (hwin z hoL _ _ ho rfl) hk⟩
   simp only [SVRep,hd_p]
   refine ⟨hnr.2,?_⟩
   rw [hβp,hlp]
   rcases hr with ⟨r',rfl,_,rfl,src,e2,_⟩ | ⟨rfl,e,te,rfl,_⟩
   ·simp only [SVRep,e2] at hu
    exact hu.2
   ·exact hu
  ·rw [hβo z h2]
   have:=h.ob z ob h5
   cases ob with
   | bx f t x =>
    obtain ⟨b,vs,e,h1,h2,h3⟩:=this
    exact ⟨b,vs,e,h1,h2,h3.tr ht⟩
   | row f e t l =>
    obtain ⟨h1,h2,vss,h3,h4⟩:=this
    exact ⟨h1,h2,vss,h3.mono fun _ _ h=>h.tr ht,h4⟩
   | bv v =>
    obtain ⟨b,u,e,k1,k2,k3⟩:=this
    exact ⟨b,u,e,k1,k2,AV.nextL hc ht (hwin z h1 _ _ h5 rfl) k3⟩
   | mm tk tv inv =>
    obtain ⟨b,es,ck,h1,h2,h3⟩:=this
    refine ⟨b,es,ck,h1,h2,fun e he=>?_⟩
    obtain ⟨x,y,g1,g2,g3⟩:=h3 e he
    exact ⟨x,y,g1.tr ht,g2.tr ht,g3⟩
   | me f tk tv m =>
    obtain ⟨b,es,ck,h1,h2,hsm,h3⟩:=this
    exact ⟨b,es,ck,h1,h2,hsm,h3.mono (fun _ _ h=>h.tr ht) fun _ _ h=>h.tr ht⟩
   | gh t x=>exact this
   | it tk tv m l =>
    obtain ⟨b,mp,since,seen,h1,h2,h3⟩:=this
    exact ⟨b,mp,since,seen,h1,h2,h3.tr ht⟩
   | rq f e t l =>
    obtain ⟨h1,h2,k,vss,h3,h4⟩:=this
    exact ⟨h1,h2,k,vss,h3.mono fun _ _ h=>h.tr ht,h4⟩
   | rr _ _ _ _ _ _=>exact this
   | bp t x hs =>
    obtain ⟨b,vs,e,us,k1,k2,k3,k4⟩:=this
    exact ⟨b,vs,e,us,k1,k2,k3.tr ht,hr_back k4 (SV.nextLs hc ht (hwin z h1 _ _ h5 rfl) (hr_svs k4))⟩
 ·intro z₁ z₂ ob₁ ob₂ b h1 h2 h3 h4
  rcases src' z₁ ob₁ h1 with e1 | ⟨y₁,ob₁',e1,e2,_,e4⟩
  ·rw [e1] at h3;cases one_blk h3
  rcases src' z₂ ob₂ h2 with f1 | ⟨y₂,ob₂',f1,f2,_,f4⟩
  ·rw [f1] at h4;cases one_blk h4
  have:=h.inj y₁ y₂ _ _ b e1 f1 (e2▸h3) (f2▸h4)
  subst this
  rcases e4 with ⟨g1,g2⟩ | ⟨g1,g2⟩<;>rcases f4 with ⟨g3,g4⟩ | ⟨g3,g4⟩
  ·rw [g1,g3]
  ·rw [g3] at g2;exact absurd g2 g4
  ·rw [g1] at g4;exact absurd g4 g2
  ·rw [←g1,←g3]
 ·intro z ob b hz hf hb
  rcases src' z ob hz with e1 | ⟨z',ob',e1,e2,e3,_⟩
  ·rw [e1] at hb;cases one_blk hb
  ·exact h.rng z' ob' b e1 (e3.trans hf) (e2▸hb)
 ·intro t
  have he:head.env t=cond ((s.env t).v.within L) (s.env t) ⟨[],.un⟩:=by rw [hhd];rfl
  rw [he]
  cases hw:(s.env t).v.within L with
  | true =>
   simp only [cond_true]
   exact ⟨fun hh=>AV.nextL hc ht hw ((h.env t).1 hh),(h.env t).2⟩
  | false=>exact ⟨fun _=>trivial,fun hh=>absurd (fun x hx=>by cases hx) hh⟩
 ·intro z b hz
  have h20:=K.posr _ _ hz
  have hzp:z≠p:=by omega
  by_cases h2:r=some z
  ·exact .inl (hd_r z h2)
  rcases h.pos z b hz with h1 | ⟨ob,h1,h4⟩
  ·left
   by_cases h3:z=o
   ·subst h3;rw [ho] at h1;cases h1
   rw [hd_z z hzp h2 h3,h1]
   cases memN z L<;>rfl
  ·by_cases h5:z=o
   ·subst h5
    rw [ho] at h1;cases h1
    exact .inr ⟨_,hd_o,by rw [hβo z hzp];exact K.posk _ _ hz (.bp t x hs) _ _ ⟨fun _=>⟨fun _ h=>h,fun _=>rfl⟩,rfl,rfl,fun _ h=>h⟩ h4⟩
   ·cases hm:memN z L with
    | true=>exact .inr ⟨ob,by rw [hd_z z hzp h2 h5,hm];exact h1,by rw [hβo z hzp];exact h4⟩
    | false=>exact .inl (by rw [hd_z z hzp h2 h5,hm,h1];rfl)
theorem canonK_rel {cx:Cx} {ann:LoopAnn} (hJ:∀ g G M w,K.J g G M w) (o k:Nat) (h:∃ β,RelB K s a w β):∃ β,RelB K (canonK cx ann s o k) a w β:=by
 have fl:∀ {p:Nat},p∉canonL s ann p:=by
  intro p hp
  have:=(List.mem_filter.1 hp).2
  simp at this
 obtain ⟨β,h⟩:=h
 unfold canonK
 split
 ·rename_i t x hs ho
  split
  ·rename_i q r hk
   split
   ·rename_i e te l hro
    rw [Bool.cond_eq_ite]
    split
    ·rename_i hc
     simp only [Bool.and_eq_true,renOk,Bool.not_eq_true',List.all_eq_true] at hc
     obtain ⟨c0,c1,c2,c3,c4⟩:=hc
     refine renAt_rel h hJ (Nat.le_of_ble_eq_true c1) c2 (memN_iff.1 c3) fl c4 ho hk (.inl ⟨r,rfl,?_,rfl,_,hro,.inl ⟨_,_,_,rfl,qRow_cases _ _ _ _ _⟩⟩)
     rintro rfl
     simp at c0
    ·exact ⟨β,h⟩
   ·rename_i e te l hro
    rw [Bool.cond_eq_ite]
    split
    ·rename_i hc
     simp only [Bool.and_eq_true,renOk,Bool.not_eq_true',List.all_eq_true] at hc
     obtain ⟨c0,c1,c2,c3,c4⟩:=hc
     refine renAt_rel h hJ (Nat.le_of_ble_eq_true c1) c2 (memN_iff.1 c3) fl c4 ho hk (.inl ⟨r,rfl,?_,rfl,_,hro,.inr (.inl ⟨_,_,_,rfl,rfl⟩)⟩)
     rintro rfl
     simp at c0
    ·exact ⟨β,h⟩
   ·rename_i g e e2 te l hro
    rw [Bool.cond_eq_ite]
    split
    ·rename_i hc
     simp only [Bool.and_eq_true,renOk,Bool.not_eq_true',List.all_eq_true] at hc
     obtain ⟨c0,c1,c2,c3,c4⟩:=hc
     refine renAt_rel h hJ (Nat.le_of_ble_eq_true c1) c2 (memN_iff.1 c3) fl c4 ho hk (.inl ⟨r,rfl,?_,rfl,_,hro,.inr (.inr ⟨_,_,_,_,_,rfl,rfl⟩)⟩)
     rintro rfl
     simp at c0
    ·exact ⟨β,h⟩
   ·exact ⟨β,h⟩
  ·rename_i q e te hk
   rw [Bool.cond_eq_ite]
   split
   ·rename_i hc
    simp only [Bool.and_eq_true,renOk,Bool.not_eq_true',List.all_eq_true] at hc
    obtain ⟨c1,c2,c3,c4⟩:=hc
    exact renAt_rel h hJ (Nat.le_of_ble_eq_true c1) c2 (memN_iff.1 c3) fl c4 ho hk (.inr ⟨rfl,_,_,rfl,nilOb_cases _ _ _ _⟩)
   ·exact ⟨β,h⟩
  ·exact ⟨β,h⟩
 ·exact ⟨β,h⟩
theorem foldl_inv {α:Type} {f:ASt→α→ASt} {Q:ASt→Prop} (hf:∀ s x,Q s→Q (f s x)):∀ (l:List α) (s:ASt),Q s→Q (l.foldl f s)
 | [],_,h=>h
 | _::l,_,h=>foldl_inv hf l _ (hf _ _ h)
theorem regen_rel {ann:LoopAnn} {o g e e2:Nat} {t:Ty} {l:List (List t.D)} (hJ:∀ g G M w,K.J g G M w) (ho:s.obs o=some (some (.rr false g e e2 t l))) (h:∃ β,RelB K s a w β):∃ β,RelB K (regen s ann o e e2 t l) a w β:=by
 obtain ⟨β,h⟩:=h
 unfold regen
 rw [Bool.cond_eq_ite]
 split
 rotate_left
 ·exact ⟨β,h⟩
 rename_i hc
 generalize canonL s ann 199999=L at hc ⊢
 simp only [Bool.and_eq_true,List.all_eq_true] at hc
 obtain ⟨hoL,hin⟩:=hc
 have hoL:=memN_iff.1 hoL
 generalize hhd:({ env:=fun t=>cond ((s.env t).v.within L) (s.env t) ⟨[],.un⟩,obs:=fun x=>cond (Nat.beq x o) (some (some (.rr false 0 e e2 t l))) (cond (memN x L) (s.obs x) (dropOb (s.obs x))) }:ASt)=head
 have hd_o:head.obs o=some (some (.rr false 0 e e2 t l)):=by rw [←hhd];simp
 have hd_z:∀ z,z≠o→head.obs z=cond (memN z L) (s.obs z) (dropOb (s.obs z)):=by
  intro z hz
  have:Nat.beq z o=false:=by
   cases hb:Nat.beq z o with
   | false=>rfl
   | true=>exact absurd (Nat.eq_of_beq_eq_true hb) hz
  rw [←hhd];simp only [this,cond_false]
 have src:∀ z ob,head.obs z=some (some ob)→(z=o∧ob=.rr false 0 e e2 t l)∨(z∈L∧z≠o∧s.obs z=some (some ob)):=by
  intro z ob hz
  by_cases h3:z=o
  ·subst h3;rw [hd_o] at hz;cases hz;exact .inl ⟨rfl,rfl⟩
  rw [hd_z z h3] at hz
  cases hm:memN z L with
  | true=>rw [hm] at hz;exact .inr ⟨memN_iff.1 hm,h3,hz⟩
  | false=>rw [hm] at hz;exact absurd hz dropOb_ne
 have src':∀ z ob,head.obs z=some (some ob)→∃ ob',s.obs z=some (some ob')∧obFz ob'=obFz ob∧(isRr ob=false→isRr ob'=false):=by
  intro z ob hz
  rcases src z ob hz with ⟨rfl,rfl⟩ | ⟨_,_,h5⟩
  ·exact ⟨_,ho,rfl,id⟩
  ·exact ⟨_,h5,rfl,id⟩
 have hown:∀ b,Own head β b→Own s β b:=by
  rintro b ⟨z,ob,h1,h2,h3⟩
  obtain ⟨ob',e1,e3,_⟩:=src' z ob h1
  exact ⟨z,ob',e1,e3.trans h2,h3⟩
 have ht:Tr (Mset K.Mg s β) w (Mset K.Mg head β) w:=⟨.refl _ _,fun b _ hb=>hb.imp id (hown b)⟩
 have hcl:CompatL L s β head β:=by
  intro z hz
  refine ⟨fun hd=>?_,fun ob hob=>?_⟩
  ·by_cases h3:z=o
   ·subst h3;rw [ho] at hd;cases hd
   rw [hd_z z h3,memN_iff.2 hz];exact hd
  ·by_cases h3:z=o
   ·subst h3;rw [ho] at hob;cases hob
    refine .inr ⟨_,hd_o,rfl,fun p hp=>?_,rfl,rfl⟩
    rcases p with _ | ⟨⟨⟩,_ | ⟨_,_⟩⟩<;>first | exact hp.elim | exact ⟨hp,rfl⟩
   ·exact .inr ⟨ob,by rw [hd_z z h3,memN_iff.2 hz];exact hob,rfl,.refl _⟩
 have hwin:∀ z∈L,∀ ob v,s.obs z=some (some ob)→ob.inner=some v→v.within L=true:=by
  intro z hz ob v h1 h2
  have:=hin z hz
  simp only [innerIn,h1,h2] at this
  exact this
 refine ⟨β,?_⟩
 refine ⟨h.frame,h.mg,?_,?_,?_,?_,?_,h.size,h.defs,h.dnd,h.nod,h.pins,hJ _ _ _ _,h.fix,?_,?_⟩
 ·intro z ob b hz hb
  obtain ⟨ob',e1,_⟩:=src' z ob hz
  exact h.dis z ob' b e1 hb
 ·intro z ob hz
  rcases src z ob hz with ⟨rfl,rfl⟩ | ⟨h1,h2,h5⟩
  ·exact h.ob _ _ ho
  ·have:=h.ob z ob h5
   cases ob with
   | bx f t x =>
    obtain ⟨b,vs,e,h1,h2,h3⟩:=this
    exact ⟨b,vs,e,h1,h2,h3.tr ht⟩
   | row f e t l =>
    obtain ⟨h1,h2,vss,h3,h4⟩:=this
    exact ⟨h1,h2,vss,h3.mono fun _ _ h=>h.tr ht,h4⟩
   | bv v =>
    obtain ⟨b,u,e,k1,k2,k3⟩:=this
    exact ⟨b,u,e,k1,k2,AV.nextL hcl ht (hwin z h1 _ _ h5 rfl) k3⟩
   | mm tk tv inv =>
    obtain ⟨b,es,ck,h1,h2,h3⟩:=this
    refine ⟨b,es,ck,h1,h2,fun e he=>?_⟩
    obtain ⟨x,y,g1,g2,g3⟩:=h3 e he
    exact ⟨x,y,g1.tr ht,g2.tr ht,g3⟩
   | me f tk tv m =>
    obtain ⟨b,es,ck,h1,h2,hsm,h3⟩:=this
    exact ⟨b,es,ck,h1,h2,hsm,h3.mono (fun _ _ h=>h.tr ht) fun _ _ h=>h.tr ht⟩
   | gh t x=>exact this
   | it tk tv m l =>
    obtain ⟨b,mp,since,seen,h1,h2,h3⟩:=this
    exact ⟨b,mp,since,seen,h1,h2,h3.tr ht⟩
   | rq f e t l =>
    obtain ⟨h1,h2,k,vss,h3,h4⟩:=this
    exact ⟨h1,h2,k,vss,h3.mono fun _ _ h=>h.tr ht,h4⟩
   | rr _ _ _ _ _ _=>exact this
   | bp t x hs =>
    obtain ⟨b,vs,e,us,k1,k2,k3,k4⟩:=this
    exact ⟨b,vs,e,us,k1,k2,k3.tr ht,hr_back k4 (SV.nextLs hcl ht (hwin z h1 _ _ h5 rfl) (hr_svs k4))⟩
 ·intro z₁ z₂ ob₁ ob₂ b h1 h2 h3 h4
  obtain ⟨_,e1,_⟩:=src' z₁ ob₁ h1
  obtain ⟨_,f1,_⟩:=src' z₂ ob₂ h2
  exact h.inj z₁ z₂ _ _ b e1 f1 h3 h4
 ·intro z ob b hz hf hb
  obtain ⟨ob',e1,e3,_⟩:=src' z ob hz
  exact h.rng z ob' b e1 (e3.trans hf) hb
 ·intro t'
  have he:head.env t'=cond ((s.env t').v.within L) (s.env t') ⟨[],.un⟩:=by rw [←hhd]
  rw [he]
  cases hw:(s.env t').v.within L with
  | true =>
   simp only [cond_true]
   exact ⟨fun hh=>AV.nextL hcl ht hw ((h.env t').1 hh),(h.env t').2⟩
  | false=>exact ⟨fun _=>trivial,fun hh=>absurd (fun x hx=>by cases hx) hh⟩
 ·intro z p hz
  by_cases h3:z=o
  ·subst h3
   rcases h.pos z p hz with h1 | ⟨ob,h1,h2⟩
   ·rw [ho] at h1;cases h1
   ·rw [ho] at h1;cases h1
    exact .inr ⟨_,hd_o,K.posk z p hz (.rr false g e e2 t l) _ _ ⟨fun hh=>(by cases hh),rfl,rfl,fun _ _=>rfl⟩ h2⟩
  ·rw [hd_z z h3]
   rcases h.pos z p hz with h1 | ⟨ob,h1,h2⟩
   ·left
    rw [h1];cases memN z L<;>rfl
   ·cases hm:memN z L with
    | true=>exact .inr ⟨ob,h1,h2⟩
    | false=>left;rw [h1];rfl
 ·intro z ob hz hr
  obtain ⟨ob',e1,_,e3⟩:=src' z ob hz
  exact h.sb z ob' e1 (e3 hr)
theorem RelB.fgt (h:RelB K s a w β) (l:List Nat):RelB K (fgtS l s) a w β:=by
 have hcc:Compat s β (fgtS l s) β:=.of_obs _ rfl
 refine ⟨h.frame,h.mg,h.dis,fun o ob ho=>(h.ob o ob ho).next hcc (.refl _ _) fun _ _=>rfl,h.inj,h.rng,?_,h.size,h.defs,h.dnd,h.nod,h.pins,h.gh,h.fix,h.pos,h.sb⟩
 intro t
 show EntRep _ _ _ _ _ _ (cond _ _ _) _
 cases memN t l with
 | true=>exact ⟨fun _=>trivial,fun hh=>absurd (fun x hx=>by cases hx) hh⟩
 | false=>exact ⟨fun hh=>((h.env t).1 hh).next hcc (.refl _ _),(h.env t).2⟩
theorem canon_rel {ann:LoopAnn} (hf:Fit K cx) (h:∃ β,RelB K s a w β):∃ β,RelB K (canon cx s ann) a w β:=by
 unfold canon
 split
 ·rename_i hy
  have hy':=hf.yl
  rw [hy] at hy'
  suffices h:∃ β,RelB K (ann.objs.foldl (canonO cx ann) s) a w β from h.imp fun _ h=>h.fgt _
  refine foldl_inv (Q:=fun s=>∃ β,RelB K s a w β) (fun s o h=>?_) _ _ h
  unfold canonO
  split
  ·exact regen_rel hy'.1 ‹_› h
  ·exact foldl_inv (Q:=fun s=>∃ β,RelB K s a w β) (fun s k h=>canonK_rel hy'.1 o k h) _ _ h
  ·exact h
 ·exact h
theorem noG_env {s s':ASt} (h:EnvR s s') (hn:NoG s):NoG s':=fun t=>by
 rcases h t with e | e
 ·rw [e];exact hn t
 ·rw [e]
end
end Go.Sx
/-
 The symbolic layer,part 26: loops.
-/
namespace Go.Sx
section
variable {K:Ctx} {cx:Cx} {s s' s₀ head:ASt} {a:Act} {w:World} {β β':Nat→Loc}
theorem exists_min {p:Nat→Prop} (h:∃ n,p n):∃ n,p n∧∀ k,p k→n≤k:=by
 obtain ⟨n,hn⟩:=h
 induction n using Nat.strongRecOn with
 | _ n ih =>
  by_cases hlt:∃ k,k<n∧p k
  ·obtain ⟨k,hk,hp⟩:=hlt
   exact ih k hk hp
  ·exact ⟨n,hn,fun k hk=>Nat.le_of_not_lt fun hlt'=>hlt ⟨k,hlt',hk⟩⟩
theorem slotShp_ok {t:Nat} {r:Bool} {h:Shp} (hs:slotShp s t r=some h):ShpOk r h:=by
 unfold slotShp at hs
 split at hs
 ·cases hs;rfl
 ·split at hs<;>cases hs<;>rfl
 ·cases hs;rfl
 ·cases hs;rfl
 ·cases hs
theorem objs_match:∀ {ob:List Nat} {hs:List Shp},optAll (objShp s) ob=some hs→Match [] ob hs
 | [],hs,h=>by simp only [optAll,Option.some.injEq] at h;subst h;trivial
 | o::ob,hs,h=>by
  simp only [optAll] at h
  split at h
  ·cases h
   show Match [] ob _
   exact objs_match ‹optAll (objShp s) ob=some _›
  ·cases h
theorem slots_match:∀ {sl:List (Nat × Bool)} {ob:List Nat} {x y:List Shp},optAll (fun x=>slotShp s x.1 x.2) sl=some x→optAll (objShp s) ob=some y→Match sl ob (x++y)
 | [],ob,x,y,h,h'=>by
  simp only [optAll,Option.some.injEq] at h
  subst h
  exact objs_match h'
 | (t,r)::sl,ob,x,y,h,h'=>by
  simp only [optAll] at h
  split at h
  ·rename_i p q h1 h2
   cases h
   have:=slots_match h2 h'
   cases ob<;>exact ⟨slotShp_ok h1,this⟩
  ·cases h
theorem shpsOf_match {a:LoopAnn} {hs:List Shp} (h:shpsOf s a=some hs):Match a.slots a.objs hs:=by
 unfold shpsOf at h
 split at h
 ·rename_i x y h1 h2
  cases h
  exact slots_match h1 h2
 ·cases h
theorem sameOb_eq {ob:Ob} {y:Option (Option Ob)} {p:Prop} (h:sameOb (some (some ob)) y=some p) (hp:p):y=some (some ob):=by
 unfold sameOb at h
 split at h
 ·rename_i f t x f' t' x' e1
  split at h
  ·rename_i y' hf hc
   cases h
   obtain ⟨e,hc⟩:=castD_some hc
   cases e
   have hp:y'=_:=hp
   have hc:y'=x':=hc
   have hf:=beq_iff_eq.1 hf
   cases e1
   rw [←hf,←hp,hc]
  ·cases h
 ·rename_i f e t x f' e' t' x' e1
  split at h
  ·rename_i y' hf hc
   cases h
   obtain ⟨e2,hc⟩:=castD_some hc
   cases e2
   have hp:y'=_:=hp
   have hc:y'=x':=hc
   simp only [Bool.and_eq_true,beq_iff_eq] at hf
   have h2:=Nat.eq_of_beq_eq_true hf.2
   cases e1
   rw [←hf.1,←h2,←hp,hc]
  ·cases h
 ·rename_i e1
  cases h
  have hp:MInv.mk _ _ _=MInv.mk _ _ _:=hp
  cases hp
  exact e1.symm
 ·rename_i t x hs t' x' hs' e1
  split at h
  ·rename_i y' hf hc
   cases h
   obtain ⟨e2,hc⟩:=castD_some hc
   cases e2
   have hp:y'=_:=hp
   have hc:y'=x':=hc
   have h1:=hsEq_eq hf
   cases e1
   rw [←h1,←hp,hc]
  ·cases h
 ·rename_i f tk tv m f' tk' tv' m' e1
  split at h
  ·rename_i y' hf hc
   cases h
   obtain ⟨e2,hc⟩:=castD_some hc
   cases e2
   have hp:y'=_:=hp
   have hc:y'=m':=hc
   have hf:=beq_iff_eq.1 hf
   cases e1
   rw [←hf,←hp,hc]
  ·cases h
 ·rename_i f e t x f' e' t' x' e1
  split at h
  ·rename_i y' hf hc
   cases h
   obtain ⟨e2,hc⟩:=castD_some hc
   cases e2
   have hp:y'=_:=hp
   have hc:y'=x':=hc
   simp only [Bool.and_eq_true,beq_iff_eq] at hf
   have h2:=Nat.eq_of_beq_eq_true hf.2
   cases e1
   rw [←hf.1,←h2,←hp,hc]
  ·cases h
 ·rename_i f g e e2 t x f' g' e' f2 t' x' e1
  split at h
  ·rename_i y' hf hc
   cases h
   obtain ⟨q2,hc⟩:=castD_some hc
   cases q2
   have hp:y'=_:=hp
   have hc:y'=x':=hc
   simp only [Bool.and_eq_true,beq_iff_eq] at hf
   have h2:=Nat.eq_of_beq_eq_true hf.1.2
   have h3:=Nat.eq_of_beq_eq_true hf.2.1
   have h4:=Nat.eq_of_beq_eq_true hf.2.2
   cases e1
   rw [←hf.1.1,←h2,←h3,←h4,←hp,hc]
  ·cases h
 ·rename_i tk tv m l tk' tv' m' l' e1
  split at h
  ·rename_i y' hc
   cases h
   obtain ⟨q2,hc⟩:=castD_some hc
   cases q2
   have hp:y'=(m,l):=hp
   have hc:y'=(m',l'):=hc
   have he:(m',l')=(m,l):=hc.symm.trans hp
   cases e1
   rw [show m'=m from congrArg Prod.fst he,show l'=l from congrArg Prod.snd he]
  ·cases h
 ·rename_i e1
  cases e1
  rw [eqSV_eq h hp]
 ·rename_i f c f' c' e1
  split at h
  ·rename_i l hf hl
   cases h
   cases e1
   rw [eqSVs_eq hl hp,Nat.eq_of_beq_eq_true hf]
  ·cases h
 ·rename_i a b e1
  cases h
  cases e1
  rw [show b=a from hp]
 ·cases h
theorem sameObs_eq {hd s':ASt}:∀ {l:List Nat} {ps:List Prop},sameObs hd s' l=some ps→(∀ p∈ps,p)→∀ o∈l,∀ ob,hd.obs o=some (some ob)→s'.obs o=some (some ob)
 | [],_,_,_,o,ho,_,_=>by cases ho
 | x::l,ps,h,hp,o,ho,ob,hob=>by
  simp only [sameObs] at h
  split at h
  ·rename_i ob1 l1 h1 h2
   split at h
   ·rename_i p hsp
    cases h
    rcases List.mem_cons.1 ho with rfl | ho
    ·rw [hob] at h1;cases h1
     exact sameOb_eq hsp (hp _ List.mem_cons_self)
    ·exact sameObs_eq h2 (fun q hq=>hp q (List.mem_cons_of_mem _ hq)) o ho ob hob
   ·cases h
  ·cases h
  ·rename_i h3 h4
   rcases List.mem_cons.1 ho with rfl | ho
   ·exact absurd hob (fun e=>by
     cases hl:sameObs hd s' l with
     | none=>exact h4 ob e hl
     | some l1=>exact h3 ob l1 e hl)
   ·exact sameObs_eq h hp o ho ob hob
theorem noG_spread:∀ {sl:List (Nat × Bool)} {ob:List Nat} {hs:List Shp} {x:Shps hs} {base:ASt},NoG base→NoG (spread base sl ob hs x):=by
 have slot:∀ {base:ASt} {t:Nat} {h:Shp} {y:h.D},NoG base→NoG (putSlot base t h y):=by
  intro base t h y hb t'
  cases h with
  | g _=>exact hb t'
  | bp _ _=>exact hb t'
  | m _ _=>exact hb t'
  | it _ _=>exact hb t'
  | rq _ _=>exact hb t'
  | rr _ _ _ _ =>
   show (put base.env t _ t').g=[]
   by_cases e':t'=t
   ·subst e';rw [put_same]
   ·rw [put_other _ _ e'];exact hb t'
  | d e =>
   show (put base.env t _ t').g=[]
   by_cases e':t'=t
   ·subst e';rw [put_same]
   ·rw [put_other _ _ e'];exact hb t'
  | row e₀ e =>
   show (put base.env t _ t').g=[]
   by_cases e':t'=t
   ·subst e';rw [put_same]
   ·rw [put_other _ _ e'];exact hb t'
 have obj:∀ {base:ASt} {o:Nat} {h:Shp} {y:h.D},NoG base→NoG (putObj base o h y):=by
  intro base o h y hb t'
  rw [putObj_env];exact hb t'
 intro sl ob hs
 induction hs generalizing sl ob with
 | nil=>intro x base hb;rcases sl with _ | ⟨y,_ | ⟨y',sl⟩⟩<;>rcases ob with _ | ⟨o,_ | ⟨o',ob⟩⟩<;>exact hb
 | cons h hs ih =>
  intro x base hb
  cases hs with
  | nil =>
   match sl,ob with
   | [],[]=>exact hb
   | [(t',r)],[]=>exact slot hb
   | [],[o]=>exact obj hb
   | (t',r)::y::sl,ob=>exact hb
   | [(t',r)],o::ob=>exact hb
   | [],o::o'::ob=>exact hb
  | cons h' hs =>
   match sl,ob with
   | [],[]=>exact hb
   | (t',r)::sl,ob =>
    have e:spread base ((t',r)::sl) ob (h::h'::hs) x=putSlot (spread base sl ob (h'::hs) x.2) t' h x.1:=by
     cases sl<;>cases ob<;>rfl
    rw [e];exact slot (ih hb)
   | [],o::ob =>
    have e:spread base [] (o::ob) (h::h'::hs) x=putObj (spread base [] ob (h'::hs) x.2) o h x.1:=by
     cases ob<;>rfl
    rw [e];exact obj (ih hb)
theorem noG_base {nt:Nat} {ann:LoopAnn} {ds:List Nat} (h:NoG s):NoG (headBase nt s ann ds):=by
 intro t
 simp only [headBase]
 cases (memN t ds||(!(s.env t).v.withinH (ann.objs++ann.keep)||!Nat.ble (t+1) nt)) with
 | true=>rfl
 | false=>exact h t
theorem head_keep {nt:Nat} {ann:LoopAnn} {ds:List Nat} {yl:Option YInfo} (hann:annOk yl ann ds=true) {hs:List Shp} (hm:Match ann.slots ann.objs hs) {x:Shps hs} {o:Nat} (ho:o∈ann.keep):(spread (headBase nt s ann ds) ann.slots ann.objs hs x).obs o=s.obs o:=by
 simp only [annOk,Bool.and_eq_true] at hann
 have hn2:(hids ann.slots++(ann.objs++ann.keep)).Nodup:=nodup_of hann.2.2.2
 have key:∀ {sl:List (Nat × Bool)} {ob:List Nat} {hs:List Shp} {x:Shps hs} {base:ASt},o∉hids sl→o∉ob→(∀ y∈sl,y.2=false→True)→(∀ y∈sl,o≠hid y.1∨y.2=false)→Match sl ob hs→(spread base sl ob hs x).obs o=base.obs o:=by
  intro sl ob hs
  induction hs generalizing sl ob with
  | nil=>intro x base _ _ _ _ _;rcases sl with _ | ⟨y,_ | ⟨y',sl⟩⟩<;>rcases ob with _ | ⟨o,_ | ⟨o',ob⟩⟩<;>rfl
  | cons h hs ih =>
   intro x base h1 h2 h3 h4 hm
   match sl,ob with
   | [],[]=>exact hm.elim
   | (t',r)::sl,ob =>
    have hm':ShpOk r h∧Match sl ob hs:=by cases ob<;>exact hm
    have e:∃ (y:h.D) (z:Shps hs),spread base ((t',r)::sl) ob (h::hs) x=putSlot (spread base sl ob hs z) t' h y:=by
     cases hs with
     | nil =>
      match sl,ob with
      | [],[]=>exact ⟨x,(),rfl⟩
      | [],_::_=>exact hm'.2.elim
      | _::_,[]=>exact hm'.2.elim
      | _::_,_::_=>exact hm'.2.elim
     | cons h' hs=>exact ⟨x.1,x.2,by cases sl<;>cases ob<;>rfl⟩
    obtain ⟨y,z,e⟩:=e
    rw [e]
    have hrec:=ih (x:=z) (base:=base) (fun hh=>h1 (by
     obtain ⟨q,hq,rfl⟩:=List.mem_map.1 hh
     exact List.mem_map.2 ⟨q,List.mem_filter.2 ⟨List.mem_cons_of_mem _ (List.mem_filter.1 hq).1,(List.mem_filter.1 hq).2⟩,rfl⟩)) h2 (fun _ _ _=>trivial) (fun q hq=>h4 q (List.mem_cons_of_mem _ hq)) hm'.2
    cases h with
    | g _=>exact hm'.1.elim
    | bp _ _=>exact hm'.1.elim
    | m _ _=>exact hm'.1.elim
    | it _ _=>exact hm'.1.elim
    | rq _ _=>exact hm'.1.elim
    | d _=>exact hrec
    | rr _ _ _ _ =>
     have hr:r=true:=hm'.1
     rw [putSlot_obs (fun e'=>h1 (by rw [e'];exact List.mem_map.2 ⟨(t',r),List.mem_filter.2 ⟨List.mem_cons_self,hr⟩,rfl⟩))]
     exact hrec
    | row _ _ =>
     have hr:r=true:=hm'.1
     rw [putSlot_obs (fun e'=>h1 (by rw [e'];exact List.mem_map.2 ⟨(t',r),List.mem_filter.2 ⟨List.mem_cons_self,hr⟩,rfl⟩))]
     exact hrec
   | [],o'::ob =>
    have hm':Match [] ob hs:=hm
    have e:∃ (y:h.D) (z:Shps hs),spread base [] (o'::ob) (h::hs) x=putObj (spread base [] ob hs z) o' h y:=by
     cases hs with
     | nil =>
      match ob with
      | []=>exact ⟨x,(),rfl⟩
      | _::_=>exact hm'.elim
     | cons h' hs=>exact ⟨x.1,x.2,by cases ob<;>rfl⟩
    obtain ⟨y,z,e⟩:=e
    rw [e,putObj_obs (fun e'=>h2 (by rw [e'];exact List.mem_cons_self))]
    exact ih h1 (fun hh=>h2 (List.mem_cons_of_mem _ hh)) (fun _ _ _=>trivial) h4 hm'
 have hno:o∉ann.objs:=fun hh=>by
  have:=(List.nodup_append.1 hn2).2.1
  exact (List.nodup_append.1 this).2.2 o hh o ho rfl
 have hnh:o∉hids ann.slots:=fun hh=>(List.nodup_append.1 hn2).2.2 o hh o (List.mem_append.2 (.inr ho)) rfl
 rw [key hnh hno (fun _ _ _=>trivial) (fun q hq=>by
   cases hq2:q.2 with
   | false=>exact .inr rfl
   | true=>exact .inl fun e=>hnh (by rw [e];exact List.mem_map.2 ⟨q,List.mem_filter.2 ⟨hq,hq2⟩,rfl⟩)) hm]
 simp only [headBase,memN_iff.2 ho,cond_true]
theorem conj_out {l:List Prop} {q:Prop} (h:conj l q):(∀ p∈l,p)∧q:=conj_all h
theorem loop_rule:LoopRule cx:=by
 intro K r n c hcx hf hbody hrf hfx M Q Qm s a w β hv h hn hp hj
 simp only [vc] at hv
 split at hv
 ·exact hv.elim
 ·rename_i ann hann
  obtain ⟨β₁,hF⟩:∃ β₁,RelB (K.mg M) (canon cx (frzS s ann.frz) ann) a w β₁:=canon_rel (hf.mg M) ⟨β,(h.freeze ann.frz).1⟩
  have hnF:NoG (canon cx (frzS s ann.frz) ann):=noG_env (canon_env _) (show NoG (frzS s ann.frz) from hn)
  clear h hn
  revert hv hF hnF
  generalize canon cx (frzS s ann.frz) ann=s
  intro hv h hn
  split at hv
  ·exact hv.elim
  ·rename_i hs hhs
   split at hv
   ·exact hv.elim
   ·rename_i x₀ hx₀
    cases hc:(annOk cx.yl ann (Code.dsts c)&&(entryOk s ann&&keepOk s ann)) with
    | false=>rw [hc] at hv;exact hv.elim
    | true =>
     rw [hc] at hv
     simp only [Bool.and_eq_true] at hc
     obtain ⟨c1,c2,c3⟩:=hc
     obtain ⟨I,m,h0,h1⟩:=hv
     have hm:=shpsOf_match hhs
     obtain ⟨hd,hhd⟩:∃ hd:Shps hs→ASt,hd=fun x=>spread (headBase cx.nt s ann (Code.dsts c)) ann.slots ann.objs hs x:=⟨_,rfl⟩
     have hnog:∀ x,NoG (hd x):=fun x=>by rw [hhd];exact noG_spread (noG_base hn)
     obtain ⟨β₀,hr0,_⟩:=loop_head (K:=K.mg M) (nt:=cx.nt) (ds:=Code.dsts c) hcx (hf.mg M) h hn hn c1 c2 c3 hm hx₀ h.posne (fun _ _ _ h=>h) (fun _ _ _ _ _=>rfl)
     have hr0:RelB (K.mg M) (hd x₀) a w β₀:=by rw [hhd];exact hr0
     let S:Act→World→Nat→Prop:=fun a w k=>∃ x M' β,(cx.yl=none→M'=M)∧I x∧RelB (K.mg M') (hd x) a w β∧m x=k
     let μ:Act→World→Nat:=fun a w=>Classical.epsilon (fun k=>S a w k∧∀ j,S a w j→k≤j)
     have hμ:∀ a w,(∃ k,S a w k)→S a w (μ a w)∧∀ k,S a w k→μ a w≤k:=by
      intro a w hh
      exact Classical.epsilon_spec (exists_min hh)
     refine wpIn_loop (fun a w=>∃ k,S a w k) μ ⟨_,x₀,M,β₀,fun _=>rfl,h0,hr0,rfl⟩ ?_
     intro a1 w1 hI
     obtain ⟨⟨x,M1,β1,hM1,hx,hrel,hmx⟩,hmin⟩:=hμ a1 w1 hI
     have hb:=h1 x hx
     have hb:=vc_frame c _ _ (fun e s'=>(match e with
       | .normal=>match collect cx (canon cx s' ann) ann.slots ann.objs hs,sameObs (spread (headBase cx.nt s ann (Code.dsts c)) ann.slots ann.objs hs x) (canon cx s' ann) ann.keep with
        | some x',some l=>cond (entryOk (canon cx s' ann) ann&&keptOk cx (Code.dsts c) (spread (headBase cx.nt s ann (Code.dsts c)) ann.slots ann.objs hs x) (canon cx s' ann)) (conj l (I x'∧m x'<m x)) False
        | _,_=>False
       | e=>Q e s')∧Fr cx (Code.dsts c) (spread (headBase cx.nt s ann (Code.dsts c)) ann.slots ann.objs hs x) s') hb (fun e s' he hfr=>⟨by cases e<;>exact he,hfr⟩)
     have hbd:=hbody hrf hfx M1 _ (Exit.then (fun a' w'=>(∃ k,S a' w' k)∧μ a' w'<μ a1 w1) Qm) _ a1 w1 β1 hb (by rw [hhd] at hrel;exact hrel) (by have:=hnog x;rw [hhd] at this;exact this) ?_ fun ch a w h1 h2=>hj ch a w h1 h2
     ·exact hbd
     ·intro M2 hM2 e s' a2 w2 β2 hq hrel2 hn2
      obtain ⟨hq,hfr⟩:=hq
      cases e with
      | normal =>
       simp only at hq
       obtain ⟨β2',hrel2'⟩:=canon_rel (ann:=ann) (hf.mg M2) ⟨β2,hrel2⟩
       have hn2':NoG (canon cx s' ann):=noG_env (canon_env _) hn2
       have hfr':Fr cx (Code.dsts c) (spread (headBase cx.nt s ann (Code.dsts c)) ann.slots ann.objs hs x) (canon cx s' ann):=fun t ht=>by
        rcases canon_env (cx:=cx) (an:=ann) s' t with e | e
        ·rw [e];exact hfr t ht
        ·exact .inr (.inl e)
       clear hfr hrel2 hn2
       revert hq hrel2' hn2' hfr'
       generalize canon cx s' ann=s'
       intro hq hrel2 hn2 hfr
       split at hq
       ·rename_i x' l hcol hsame
        cases hcc:(entryOk s' ann&&keptOk cx (Code.dsts c) (spread (headBase cx.nt s ann (Code.dsts c)) ann.slots ann.objs hs x) s') with
        | false=>rw [hcc] at hq;exact hq.elim
        | true =>
         rw [hcc] at hq
         simp only [Bool.and_eq_true] at hcc
         obtain ⟨hall,hI',hlt⟩:=conj_out hq
         obtain ⟨β3,hr3,_⟩:=loop_head (K:=K.mg M2) (nt:=cx.nt) (ds:=Code.dsts c) (s₀:=s) hcx (hf.mg M2) hrel2 hn2 hn c1 hcc.1 c3 hm hcol h.posne
          (fun o ho ob hob=>sameObs_eq hsame hall o ho ob (by rw [head_keep c1 hm ho];exact hob))
          (fun t ht1 ht2 ht3 ht4=>by
           have e1:(spread (headBase cx.nt s ann (Code.dsts c)) ann.slots ann.objs hs x).env t=s.env t:=by
            rw [spread_fr (annOk_slots c1) t ht1]
            simp only [headBase]
            have b1:memN t (Code.dsts c)=false:=by
             cases hb:memN t (Code.dsts c) with
             | false=>rfl
             | true=>exact absurd (memN_iff.1 hb) ht1
            have b2:Nat.ble (t+1) cx.nt=true:=Nat.ble_eq_true_of_le ht2
            rw [b1,ht3,b2];rfl
           rcases hfr t ht1 with e2 | e2 | ⟨d₀,e2,e3⟩
           rotate_right
           ·have hk:=hcc.2
            simp only [keptOk,List.all_eq_true,List.mem_range] at hk
            have:=hk t ht2
            have b1:memN t (Code.dsts c)=false:=by
             cases hb:memN t (Code.dsts c) with
             | false=>rfl
             | true=>exact absurd (memN_iff.1 hb) ht1
            have b2:memN t ((Code.dsts c).filterMap cx.ali)=true:=memN_iff.2 (List.mem_filterMap.2 ⟨d₀,e2,e3⟩)
            rw [b1,b2,e1,ht4] at this
            simp at this
           ·rw [e2,e1]
           ·have hk:=hcc.2
            simp only [keptOk,List.all_eq_true,List.mem_range] at hk
            have:=hk t ht2
            rw [e1,e2,ht4] at this
            have b1:memN t (Code.dsts c)=false:=by
             cases hb:memN t (Code.dsts c) with
             | false=>rfl
             | true=>exact absurd (memN_iff.1 hb) ht1
            rw [b1] at this
            cases this)
         have hS:S a2 w2 (m x'):=⟨x',M2,β3,fun e=>(hM2 e).trans (hM1 e),hI',by rw [hhd];exact hr3,rfl⟩
         refine ⟨⟨_,hS⟩,?_⟩
         have:=(hμ a2 w2 ⟨_,hS⟩).2 _ hS
         omega
       ·exact hq.elim
      | _=>exact hp M2 (fun e=>(hM2 e).trans (hM1 e)) _ s' a2 w2 β2 hq hrel2 hn2
end
end Go.Sx
/-
 The symbolic layer,part 27: ranges over functions.
-/
namespace Go.Sx
section
variable {K:Ctx} {cx:Cx} {s s' s₀ head:ASt} {a:Act} {w:World} {β β':Nat→Loc}
theorem enter_facts (h:RelB K s a w β) {r:Option Nat} (hr:RFit K r) (fn:FuncId) (ps:Array Nat) (x y:Code) :
  ∃ l mark w1 rc,(Instr.enterLoop fn a.tmps ps x y r).run K.P w=.ok (l,mark) w1∧Ext noM w w1∧w1.heap[l]?=some (.loop rc)∧rc={ state:=.ready,pending:=none,fn:=fn,tmps:=a.tmps,params:=ps,assign:=x,body:=y,defers:=rc.defers }∧w.heap.size≤l ∧
   (mark.map dof).Nodup∧∀ d∈mark,∃ D,d={ target:=.collected D,args:=#[] }∧w1.heap[D]?=some (.deferred (some []))∧w.heap.size≤D:=by
 cases r with
 | none =>
  refine ⟨_,_,_,{ state:=.ready,pending:=none,fn:=fn,tmps:=a.tmps,params:=ps,assign:=x,body:=y,defers:=w.heap.size },run_enterLoop_outer fn a.tmps ps x y,(ext_alloc _ _).trans (ext_alloc _ _),?_,rfl,?_,by simp,?_⟩
  ·have:=World.alloc_heap_new (w.alloc (.deferred (some []))) (.loop { state:=.ready,pending:=none,fn,tmps:=a.tmps,params:=ps,assign:=x,body:=y,defers:=w.heap.size })
   rwa [World.size_alloc] at this
  ·omega
  ·intro d hd
   rw [List.mem_singleton.1 hd]
   refine ⟨w.heap.size,rfl,?_,Nat.le_refl _⟩
   exact ((ext_alloc (w.alloc (.deferred (some []))) _).2 _ (by rw [World.size_alloc];omega) id).trans (World.alloc_heap_new _ _)
 | some l₀ =>
  obtain ⟨r₀,hr⟩:=hr
  have hp:=(h.pins _ hr).1
  have hp:w.heap[l₀]?=some (.loop r₀):=hp
  refine ⟨w.heap.size,[],w.alloc (.loop { state:=.ready,pending:=none,fn,tmps:=a.tmps,params:=ps,assign:=x,body:=y,defers:=r₀.defers }),{ state:=.ready,pending:=none,fn:=fn,tmps:=a.tmps,params:=ps,assign:=x,body:=y,defers:=r₀.defers },?_,ext_alloc _ _,World.alloc_heap_new _ _,rfl,Nat.le_refl _,List.nodup_nil,fun d hd=>by cases hd⟩
  unfold Instr.enterLoop
  simp only [Sem.run_bind,run_getLoop hp,run_newObj_alloc,Result.andThen,Sem.run_pure]
def KR (K:Ctx) (Mg:Nat→Prop) (w0:World) (Ml Mf:Nat→Prop) (hm:∀ b,Ml b→Mf b) (pins:List (Nat × Obj)) (fix:Nat→Option Value):Ctx :=
 {P:=K.P,w0,Mg,Ml,Mf,mlf:=hm,nt:=K.nt,pins,fix,pos:=K.pos,posr:=K.posr,posk:=K.posk,nod:=False,gid:=0,J:=fun _ _ _ _=>True,Jst:=fun _ _ _ _ _ _ _ _ _ _=>trivial }
def J1 (K:Ctx) (Go:Nat→Prop) (l:Nat) (ws:World) (Ms Fr:Nat→Prop) (g:Option Dv) (G M:Nat→Prop) (w:World):Prop :=
 ∃ M₀:Nat→Prop,M=(fun b=>(M₀ b∨Go b)∨b=l)∧K.J g (fun b=>G b∨(Go b∨b=l)) M₀ w∧(∀ b,b<ws.heap.size→M₀ b→Ms b)∧(∀ b,(Go b∨b=l)→¬ M₀ b∧K.w0.heap.size≤b∧b<w.heap.size)∧Ext Fr ws w
theorem J1u_st {Go:Nat→Prop} {l:Nat} {ws:World} {Ms Fr Ml:Nat→Prop} (hml:∀ b,Ml b→K.w0.heap.size≤b∨K.Ml b) (hfr:∀ b,Ml b→Fr b) (hws:K.w0.heap.size≤ws.heap.size) (g:Option Dv) (G M:Nat→Prop) (w:World) (G':Nat→Prop) (w':World)
  (h:J1 K Go l ws Ms Fr g G M w) (ht:TrD ws.heap.size M G w G' w') (hG:∀ b,G b→¬ M b∧(ws.heap.size≤b∨Ml b)) (hG':∀ b,G' b→b<w'.heap.size):J1 K Go l ws Ms Fr g G' M w':=by
 obtain ⟨M₀,rfl,h1,h2,h3,h4⟩:=h
 refine ⟨M₀,rfl,K.Jst _ _ _ _ _ _ h1 ⟨ht.1.mono hws (fun b hb=>.inl (.inl hb)) (fun b _ hb=>.inl hb),fun b hb hm=>hm.imp (ht.2 b hb) id⟩ ?_ ?_,h2,fun b hb=>⟨(h3 b hb).1,(h3 b hb).2.1,Nat.lt_of_lt_of_le (h3 b hb).2.2 ht.1.1⟩,?_⟩
 ·rintro b (hb | hb)
  ·exact ⟨fun hm=>(hG b hb).1 (.inl (.inl hm)),(hG b hb).2.elim (fun h=>.inl (Nat.le_trans hws h)) (hml b)⟩
  ·exact ⟨(h3 b hb).1,.inl (h3 b hb).2.1⟩
 ·rintro b (hb | hb)
  ·exact hG' b hb
  ·exact Nat.lt_of_lt_of_le (h3 b hb).2.2 ht.1.1
 ·refine ⟨Nat.le_trans h4.1 ht.1.1,fun b hb hn=>?_,ht.1.io.1.trans h4.io.1,ht.1.io.2.trans h4.io.2⟩
  rcases ht.1.2 b (Nat.lt_of_lt_of_le hb h4.1) (fun hg=>(hG b hg).2.elim (fun h=>by omega) fun h=>hn (hfr b h)) with e | ⟨e,_⟩
  ·exact e.trans (h4.2 b hb hn)
  ·omega
theorem J1u_put {Go:Nat→Prop} {l:Nat} {ws:World} {Ms Fr:Nat→Prop} {g:Option Dv} {G M:Nat→Prop} {w:World} (h:J1 K Go l ws Ms Fr g G M w) (hl:Fr l) (hG:∀ b,G b→¬ M b∧(K.w0.heap.size≤b∨K.Ml b)) (hG':∀ b,G b→b<w.heap.size) (o:Obj):J1 K Go l ws Ms Fr g G M (w.putObj l o):=by
 obtain ⟨M₀,rfl,h1,h2,h3,h4⟩:=h
 refine ⟨M₀,rfl,K.Jst _ _ _ _ _ _ h1 (Trx.d ⟨⟨by simp,fun b _ hb=>World.putObj_heap_other fun e=>hb (.inr (.inr e)),rfl,rfl⟩,fun _ _ h=>h⟩) ?_ ?_,h2,fun b hb=>by rw [World.putObj_size];exact h3 b hb,?_⟩
 ·rintro b (hb | hb)
  ·exact ⟨fun hm=>(hG b hb).1 (.inl (.inl hm)),(hG b hb).2⟩
  ·exact ⟨(h3 b hb).1,.inl (h3 b hb).2.1⟩
 ·rintro b (hb | hb)
  ·rw [World.putObj_size];exact hG' b hb
  ·rw [World.putObj_size];exact (h3 b hb).2.2
 ·exact ⟨by rw [World.putObj_size];exact h4.1,fun b hb hn=>(World.putObj_heap_other fun e=>hn (by rw [e];exact hl)).trans (h4.2 b hb hn),h4.io⟩
def JK (o:Option YInfo) (K:Ctx) (Go:Nat→Prop) (l:Nat) (ws:World) (Ms Fr:Nat→Prop):Option Dv→(Nat→Prop)→(Nat→Prop)→World→Prop:=match o with
 | none=>fun _ _ _ _=>True
 | some _=>J1 K Go l ws Ms Fr
def jpK (o:Option YInfo) (K:Ctx) (ws:World) (Fr:Nat→Prop):List PanicEntry→World→Prop:=match o with
 | none=>fun _ _=>False
 | some _=>fun ch w=>K.jp ch w∧Ext Fr ws w
theorem JK_intro {o:Option YInfo} {K:Ctx} {Go:Nat→Prop} {l:Nat} {ws:World} {Ms Fr:Nat→Prop} {g:Option Dv} {G M:Nat→Prop} {w:World} (h:o.isSome=true→J1 K Go l ws Ms Fr g G M w):JK o K Go l ws Ms Fr g G M w:=by
 cases o with
 | none=>trivial
 | some _=>exact h rfl
theorem JK_elim {o:Option YInfo} {K:Ctx} {Go:Nat→Prop} {l:Nat} {ws:World} {Ms Fr:Nat→Prop} {g:Option Dv} {G M:Nat→Prop} {w:World} (h:JK o K Go l ws Ms Fr g G M w) (ho:o.isSome=true):J1 K Go l ws Ms Fr g G M w:=by
 cases o with
 | none=>cases ho
 | some _=>exact h
theorem jpK_elim {o:Option YInfo} {K:Ctx} {ws:World} {Fr:Nat→Prop} {ch:List PanicEntry} {w:World} (h:jpK o K ws Fr ch w):o.isSome=true∧K.jp ch w∧Ext Fr ws w:=by
 cases o with
 | none=>exact h.elim
 | some _=>exact ⟨rfl,h⟩
def KN (o:Option YInfo) (K:Ctx) (Go:Nat→Prop) (l:Nat) (Mg Ms:Nat→Prop) (ws:World) (Ml Mf Fr:Nat→Prop) (hm:∀ b,Ml b→Mf b) (hml:∀ b,Ml b→K.w0.heap.size≤b∨K.Ml b) (hfr:∀ b,Ml b→Fr b) (hws:K.w0.heap.size≤ws.heap.size) (pins:List (Nat × Obj)) (fix:Nat→Option Value):Ctx :=
 {P:=K.P,w0:=ws,Mg,Ml,Mf,mlf:=hm,nt:=K.nt,pins,fix,pos:=K.pos,posr:=K.posr,posk:=K.posk,nod:=False,gid:=K.gid,J:=JK o K Go l ws Ms Fr
  Jst:=by
   cases o with
   | none=>exact fun _ _ _ _ _ _ _ _ _ _=>trivial
   | some _=>exact J1u_st hml hfr hws
  jp:=jpK o K ws Fr
  jpst:=by
   cases o with
   | none=>exact fun _ _ _ h _=>h.elim
   | some _ =>
    rintro ch w w' ⟨h1,h2⟩ hx
    refine ⟨K.jpst ch w w' h1 (hx.mono hws (fun _ h=>h) fun _ _ h=>h),Nat.le_trans h2.1 hx.1,fun b hb hn=>?_,hx.io.1.trans h2.io.1,hx.io.2.trans h2.io.2⟩
    rcases hx.2 b (Nat.lt_of_lt_of_le hb h2.1) id with e | ⟨e,_⟩
    ·exact e.trans (h2.2 b hb hn)
    ·omega
  Mx:=fun b=>K.Mx b∨(Go b∨b=l) }
theorem KN_fit (hf:Fit K cx) {Go:Nat→Prop} {l:Nat} {Mg Ms:Nat→Prop} {ws:World} {Ml Mf Fr:Nat→Prop} {hm:∀ b,Ml b→Mf b} {hml:∀ b,Ml b→K.w0.heap.size≤b∨K.Ml b} {hfr:∀ b,Ml b→Fr b} {hws:K.w0.heap.size≤ws.heap.size} {pins:List (Nat × Obj)} {fix:Nat→Option Value}
  (hms:∀ b,Ms b→Fr b) (hmf:cx.yl.isSome=true→∀ b,Ms b→¬ K.Mx b→Mf b) (hpn:cx.yl.isSome=true→∀ x∈pins,x.1<ws.heap.size∧(Ms x.1→K.Mx x.1∨x.1=l)):Fit (KN cx.yl K Go l Mg Ms ws Ml Mf Fr hm hml hfr hws pins fix) cx:=by
 refine ⟨hf.nt,hf.mixed,?_⟩
 have hfy:=hf.yl
 revert hmf hpn
 generalize hk:KN cx.yl K Go l Mg Ms ws Ml Mf Fr hm hml hfr hws pins fix=KK
 cases hyl:cx.yl with
 | none =>
  intro _ _
  refine ⟨?_,?_⟩
  ·rw [←hk]
   intro g G M w
   show JK cx.yl K Go l ws Ms Fr g G M w
   rw [hyl];trivial
  ·rw [←hk];exact id
 | some y =>
  intro hmf hpn
  have hmf:=hmf rfl
  have hpn:=hpn rfl
  rw [hyl] at hfy
  have hfy:YFit K y:=hfy
  have eJ:KK.J=J1 K Go l ws Ms Fr:=by rw [←hk];show JK cx.yl K Go l ws Ms Fr=_;rw [hyl];rfl
  have ejp:KK.jp=fun ch w=>K.jp ch w∧Ext Fr ws w:=by rw [←hk];show jpK cx.yl K ws Fr=_;rw [hyl];rfl
  have eMx:KK.Mx=fun b=>K.Mx b∨(Go b∨b=l):=by rw [←hk];rfl
  have eP:KK.P=K.P:=by rw [←hk];rfl
  have ew:KK.w0=ws:=by rw [←hk];rfl
  have eMf:KK.Mf=Mf:=by rw [←hk];rfl
  have eMl:KK.Ml=Ml:=by rw [←hk];rfl
  have ep:KK.pins=pins:=by rw [←hk];rfl
  refine ⟨by rw [←hk];exact hfy.gid,by rw [←hk];exact id,?_,?_,?_,?_⟩
  ·rw [eJ,eMx,ew,eMf]
   rintro g G M w ⟨M₀,rfl,h1,h2,h3,h4⟩ b hb hM hx
   rcases hM with (hM | hM) | hM
   ·exact hmf b (h2 b hb hM) fun h=>hx (.inl h)
   ·exact absurd (.inr (.inl hM)) hx
   ·exact absurd (.inr (.inr hM)) hx
  ·rw [eJ,eMx,ep]
   rintro g G M w ⟨M₀,rfl,h1,h2,h3,h4⟩ x hx hM
   obtain ⟨p1,p2⟩:=hpn x hx
   rcases hM with (hM | hM) | hM
   ·exact (p2 (h2 _ p1 hM)).imp id .inr
   ·exact .inr (.inl hM)
   ·exact .inr (.inr hM)
  ·rw [eJ]
   rintro g G M w ⟨M₀,rfl,h1,h2,h3,h4⟩ b hM
   rcases hM with (hM | hM) | hM
   ·exact hfy.lt _ _ _ _ h1 b hM
   ·exact (h3 b (.inl hM)).2.2
   ·exact (h3 b (.inr hM)).2.2
  ·rw [eJ,eMx,ejp,eP,ew,eMl]
   rintro p e r G M w us hall ⟨M₀,rfl,h1,h2,h3,h4⟩ hre hG hG2
   have hre':∃ cs,YR y.two y.elt us cs∧Rep K.P y.elt w (fun b=>M₀ b∨(G b∨(Go b∨b=l))) cs e:=by
    obtain ⟨cs,k1,k2⟩:=hre
    refine ⟨cs,k1,k2.tr ⟨.refl _ _,fun b _ hm=>?_⟩⟩
    rcases hm with hm | hm | hm | hm
    ·exact .inl (.inl (.inl hm))
    ·exact .inr hm
    ·exact .inl (.inl (.inr hm))
    ·exact .inl (.inr hm)
   have hkeep:∀ {w₂:World},Ext (fun b=>M₀ b∧¬ K.Mx b) w w₂→Ext Fr ws w₂:=fun hx=>⟨Nat.le_trans h4.1 hx.1,fun b hb hn=>(hx.2 b (Nat.lt_of_lt_of_le hb h4.1) fun hm=>hn (hms b (h2 b hb hm.1))).trans (h4.2 b hb hn),hx.io.1.trans h4.io.1,hx.io.2.trans h4.io.2⟩
   have hext:∀ {w₂:World},Ext (fun b=>M₀ b∧¬ K.Mx b) w w₂→Ext (fun b=>((M₀ b∨Go b)∨b=l)∧¬ (K.Mx b∨(Go b∨b=l))) w w₂:=fun hx=>hx.mono fun b _ hm=>⟨.inl (.inl hm.1),fun h=>h.elim hm.2 fun h=>(h3 b h).1 hm.1⟩
   have hJ2:∀ {g':Option Dv} {M₂:Nat→Prop} {w₂:World},K.J g' (fun b=>G b∨(Go b∨b=l)) M₂ w₂→Ext (fun b=>M₀ b∧¬ K.Mx b) w w₂→(∀ b,b<w.heap.size→M₂ b→M₀ b)→J1 K Go l ws Ms Fr g' G (fun b=>(M₂ b∨Go b)∨b=l) w₂∧Ext (fun b=>((M₀ b∨Go b)∨b=l)∧¬ (K.Mx b∨(Go b∨b=l))) w w₂∧∀ b,b<w.heap.size→((M₂ b∨Go b)∨b=l)→((M₀ b∨Go b)∨b=l) :=
    fun hj hx ho=>⟨⟨_,rfl,hj,fun b hb hm=>h2 b hb (ho b (Nat.lt_of_lt_of_le hb h4.1) hm),fun b hb=>⟨fun hm=>(h3 b hb).1 (ho b (h3 b hb).2.2 hm),(h3 b hb).2.1,Nat.lt_of_lt_of_le (h3 b hb).2.2 hx.1⟩,hkeep hx⟩,hext hx,fun b hb hm=>hm.imp (fun h=>h.imp (ho b hb) id) id⟩
   obtain ⟨fn,tmps,xx,yy,c1,c2⟩:=hfy.call p e r _ M₀ w us hall h1 hre' (by
    rintro b (hb | hb)
    ·exact ⟨fun hm=>(hG b hb).1 (.inl (.inl hm)),(hG b hb).2.elim (fun h=>.inl (Nat.le_trans hws h)) (hml b)⟩
    ·exact ⟨(h3 b hb).1,.inl (h3 b hb).2.1⟩) (by
    rintro b (hb | hb)
    ·exact hG2 b hb
    ·exact (h3 b hb).2.2)
   refine ⟨fn,tmps,xx,yy,c1,c2.mono ?_⟩
   rintro r' w₂ (⟨k1,M₂,k2,k3,k4⟩ | ⟨k1,M₂,k2,k3,k4⟩ | ⟨ch,k1,k2,k3⟩)
   ·exact .inl ⟨k1,_,hJ2 k2 k3 k4⟩
   ·exact .inr (.inl ⟨k1,_,hJ2 k2 k3 k4⟩)
   ·exact .inr (.inr ⟨ch,k1,⟨k2,hkeep k3⟩,hext k3⟩)
theorem obj_not_loop (h:RelB K s a w β) {o:Nat} {ob:Ob} {b:Nat} (ho:s.obs o=some (some ob)) (hb:(β o).has b) {x:Obj} (hx:w.heap[b]?=some x) (hn:mach x=true):False:=by
 rcases (h.ob o ob ho).block (h.sb o ob ho) hb with ⟨c,e,hc⟩ | ⟨c,e,hc⟩ | ⟨m,c,e,z,hc⟩
 ·rw [hx] at hc;cases hc;cases hn
 ·rw [hx] at hc;cases hc;cases hn
 ·rw [hx] at hc;cases hc;cases hn
theorem ext_putObj (w:World) (l:Nat) (o:Obj):Ext (fun b=>b=l) w (w.putObj l o) :=
 ⟨by simp,fun b _ hb=>World.putObj_heap_other hb,rfl,rfl⟩
theorem putPs_rel (h:RelB K s a w β) (hn:NoG s) {two:Bool} {elt:Ty} {ps:Array Nat} {e:elt.D} {us:List Value} (hps:psOk K.nt two elt ps.toList=true) (hfx:∀ p∈ps.toList,K.fix p=none)
  (hu:∃ cs,YR two elt us cs∧Rep K.P elt w (Mset K.Mg s β) cs e) :
  RelB K (putPs two elt s ps e) { a with tmps:=(ps.zip us.toArray).foldl (fun tmps (t,v)=>tmps.setIfInBounds t v) a.tmps } w β∧NoG (putPs two elt s ps e)∧us.toArray.size=ps.size:=by
 obtain ⟨cs,hy,hr⟩:=hu
 obtain ⟨ps⟩:=ps
 cases two with
 | false =>
  match ps,hps,hfx with
  | [p],hps,hfx =>
   have hps:Nat.ble (p+1) K.nt=true:=hps
   have hy:us=[pack elt cs]:=hy
   subst hy
   have ef:((⟨[p]⟩:Array Nat).zip [pack elt cs].toArray).foldl (fun tmps (x:Nat × Value)=>tmps.setIfInBounds x.1 x.2) a.tmps=a.tmps.setIfInBounds p (pack elt cs):=by simp
   rw [show (fun (tmps:Array Value) (x:Nat × Value)=>match x with | (t,v)=>tmps.setIfInBounds t v)=fun tmps x=>tmps.setIfInBounds x.1 x.2 from rfl,ef]
   have hp:p<K.nt:=Nat.le_of_ble_eq_true hps
   have h1:=h.slot (d:=p) (v:=pack elt cs) (e:=⟨[],.s (.d elt e)⟩) hp (hfx p List.mem_cons_self) (fun t x hx=>by rw [hn t] at hx;cases hx) (fun x hx=>by cases hx) ⟨fun _=>⟨cs,hr,rfl⟩,fun hh=>absurd (fun x hx=>by cases hx) hh⟩
   refine ⟨h1,?_,rfl⟩
   intro t
   show (put s.env p _ t).g=[]
   by_cases e':t=p
   ·subst e';rw [put_same]
   ·rw [put_other _ _ e'];exact hn t
  | [],hps,_=>cases hps
  | _::_::_,hps,_=>cases hps
 | true =>
  cases elt with
  | p ta tb =>
   match ps,hps,hfx with
   | [p,q],hps,hfx =>
    have hps:((Nat.ble (p+1) K.nt&&Nat.ble (q+1) K.nt)&&!Nat.beq p q)=true:=hps
    simp only [Bool.and_eq_true,Bool.not_eq_true'] at hps
    obtain ⟨⟨hp,hq⟩,hne⟩:=hps
    have hp:p<K.nt:=Nat.le_of_ble_eq_true hp
    have hq:q<K.nt:=Nat.le_of_ble_eq_true hq
    obtain ⟨c,d,rfl,r1,r2⟩:=hr
    have l1:=r1.length
    have hy:us=[pack ta ((c++d).take ta.n),pack tb ((c++d).drop ta.n)]:=hy
    rw [←l1,List.take_left,List.drop_left] at hy
    subst hy
    have ef:((⟨[p,q]⟩:Array Nat).zip [pack ta c,pack tb d].toArray).foldl (fun tmps (x:Nat × Value)=>tmps.setIfInBounds x.1 x.2) a.tmps=(a.tmps.setIfInBounds p (pack ta c)).setIfInBounds q (pack tb d):=by simp
    rw [show (fun (tmps:Array Value) (x:Nat × Value)=>match x with | (t,v)=>tmps.setIfInBounds t v)=fun tmps x=>tmps.setIfInBounds x.1 x.2 from rfl,ef]
    have hn1:NoG { s with env:=put s.env p ⟨[],.s (.d ta e.1)⟩ }:=by
     intro t
     show (put s.env p _ t).g=[]
     by_cases e':t=p
     ·subst e';rw [put_same]
     ·rw [put_other _ _ e'];exact hn t
    have h1:=h.slot (d:=p) (v:=pack ta c) (e:=⟨[],.s (.d ta e.1)⟩) hp (hfx p List.mem_cons_self) (fun t x hx=>by rw [hn t] at hx;cases hx) (fun x hx=>by cases hx) ⟨fun _=>⟨c,r1,rfl⟩,fun hh=>absurd (fun x hx=>by cases hx) hh⟩
    have h2:=h1.slot (d:=q) (v:=pack tb d) (e:=⟨[],.s (.d tb e.2)⟩) hq (hfx q (List.mem_cons_of_mem _ List.mem_cons_self)) (fun t x hx=>by rw [hn1 t] at hx;cases hx) (fun x hx=>by cases hx) ⟨fun _=>⟨d,r2,rfl⟩,fun hh=>absurd (fun x hx=>by cases hx) hh⟩
    refine ⟨h2,?_,rfl⟩
    intro t
    show (put (put s.env p _) q _ t).g=[]
    by_cases e':t=q
    ·subst e';rw [put_same]
    ·rw [put_other _ _ e'];exact hn1 t
   | [],hps,_=>cases hps
   | [_],hps,_=>cases hps
   | _::_::_::_,hps,_=>cases hps
  | _=>cases hps
theorem putPs_fr {two:Bool} {elt:Ty} {ps:Array Nat} {e:elt.D} {t:Nat} (ht:t∉ps.toList):(putPs two elt s ps e).env t=s.env t:=by
 obtain ⟨ps⟩:=ps
 cases two with
 | false =>
  match ps,ht with
  | [p],ht=>exact put_other _ _ (fun e=>ht (by simp [e]))
  | [],_=>rfl
  | _::_::_,_=>rfl
 | true =>
  cases elt with
  | p ta tb =>
   match ps,ht with
   | [p,q],ht =>
    show put (put s.env p _) q _ t=_
    rw [put_other _ _ (fun e=>ht (by simp [e])),put_other _ _ (fun e=>ht (by simp [e]))]
   | [],_=>rfl
   | [_],_=>rfl
   | _::_::_::_,_=>rfl
  | _=>rfl
end
theorem leavesP {P:Program} {n:Nat} {fn:Func} {tmps:Array Value} {ch:List PanicEntry} {R:Ending→World→Prop}:∀ {ds:List Deferred} {w:World},(∀ d∈ds,∃ D,d={ target:=.collected D,args:=#[] }∧w.heap[D]?=some (.deferred (some [])))→(ds.map dof).Nodup →
  (∀ w':World,w'.heap.size=w.heap.size→(∀ b,b∉ds.map dof→w'.heap[b]?=w.heap[b]?)→(w'.os=w.os∧w'.output=w.output)→R (.panicked ch) w')→LeavesInM (FF P none) n P fn tmps R ds (.panicking ch) w
 | [],w,_,_,h=>h w rfl (fun _ _=>rfl) ⟨rfl,rfl⟩
 | d::ds,w,hd,hn,h=>by
  obtain ⟨D,rfl,hD⟩:=hd d List.mem_cons_self
  have hn:=List.nodup_cons.1 (show (D::ds.map dof).Nodup from hn)
  refine ⟨by simp,.inl ⟨D,w.putObj D (.deferred none),rfl,run_takeDeferred hD,leavesP ?_ hn.2 ?_⟩⟩
  ·intro d' hd'
   obtain ⟨D',rfl,hD'⟩:=hd d' (List.mem_cons_of_mem _ hd')
   refine ⟨D',rfl,(World.putObj_heap_other fun e=>?_).trans hD'⟩
   subst e
   exact hn.1 (List.mem_map.2 ⟨_,hd',rfl⟩)
  ·intro w' h1 h2 h3
   refine h w' (h1.trans (by simp)) (fun b hb=>?_) h3
   have hb:b∉D::ds.map dof:=hb
   simp only [List.mem_cons,not_or] at hb
   exact (h2 b hb.2).trans (World.putObj_heap_other hb.1)
end Go.Sx
/-
 The symbolic layer,part 27b: the rule for ranges over functions.
-/
namespace Go.Sx
def roundPostX (P:Program) (l:Nat) (fc:Func) (R:Ending→World→Prop):Exit→Act→World→Prop
 | .panic ch,a,w=>LeavesInM (FF P none) 0 P fc a.tmps R a.defers (.panicking ch) w
 | e,a,w=>roundPost P l R e a w
def roundPan (P:Program) (fc:Func) (R:Ending→World→Prop):Exit→Act→World→Prop
 | .panic ch,a,w=>LeavesInM (FF P none) 0 P fc a.tmps R a.defers (.panicking ch) w
 | _,_,_=>False
theorem pnc_some {ex:Exit} {ch:List PanicEntry} (h:pnc ex=some ch):ex=.panic ch:=by
 cases ex with
 | panic c=>cases h;rfl
 | _=>cases h
theorem roundIn_of_wpX {P:Program} {l:Nat} {f:FuncId} {fc:Func} {tmps:Array Value} {x y:Code} {w:World} {R:Ending→World→Prop} (hfc:P.funcs[f]?=some fc)
  (h:x.wpIn (FF P (some l)) 0 P (Exit.then (fun a₁ w₁=>∃ w₂,(Instr.beginRound l).run P w₁=.ok () w₂∧y.wpIn (FF P (some l)) 0 P (roundPostX P l fc R) a₁ w₂) (roundPan P fc R)) { tmps:=tmps,defers:=[] } w) :
  RoundIn (FF P none) 0 P l f tmps x y w R:=by
 have hF:(FF P none).fn f:=by show (P.funcs[f]?).isSome=true;rw [hfc];rfl
 have hF2:(FF P (some l)).fn f:=hF
 refine ⟨hF,fun c cs hr=>?_⟩
 let b:Frame:={ (default:Frame) with fn:=f,kind:=.normal,roundOf:=some l }
 have hr':(FF P (some l)).room ((c::cs).length+1+0):=by intro d hd;cases hd
 have hr0:(FF P none).room ((c::cs).length+1+0):=by intro d hd;cases hd
 have e0:Frame.round l f tmps x y .normal=b.atR { tmps:=tmps,defers:=[] } [.code x,.beginRound,.code y]:=by simp [Frame.round,Frame.atR,b]
 obtain ⟨e,a₁,w₁,hq,harr⟩:=h b [.beginRound,.code y] (c::cs) rfl hF2 hr'
 rw [←e0] at harr
 cases e with
 | normal =>
  obtain ⟨w₂,hbr,hbody⟩:=hq
  have s1:StepsIn (Machine.fenced P (FF P (some l))) P (lone (b.atR a₁ [.beginRound,.code y]) (c::cs) w₁) (lone (b.atR a₁ [.code y]) (c::cs) w₂) :=
   .one (fenced_calm (fr:=b.atR a₁ [.beginRound,.code y]) hF2 hr' rfl) (stepR_beginRound rfl hbr)
  have s2:=StepsIn.trans harr s1
  obtain ⟨e₂,a₂,w₃,hq₂,harr₂⟩:=hbody b [] (c::cs) rfl hF2 hr'
  cases e₂ with
  | normal =>
   obtain ⟨v,w₄,hend,hR⟩:=hq₂
   exact ⟨.returned v,w₄,hR,StepsIn.trans s2 (StepsIn.trans harr₂ (.one (fenced_calm (fr:=b.atR a₂ []) hF2 hr' rfl) (stepR_round_end rfl rfl hend)))⟩
  | ret =>
   obtain ⟨v,w₄,hend,hR⟩:=hq₂
   obtain ⟨k₁,hs⟩:=harr₂.2 rfl
   exact ⟨.returned v,w₄,hR,StepsIn.trans s2 (StepsIn.trans hs (.one (fenced_calm (fr:=b.atR a₂ (.code .ret::k₁)) hF2 hr' rfl) (stepR_round_ret rfl rfl hend)))⟩
  | exit id =>
   obtain ⟨v,w₄,hend,hR⟩:=hq₂
   obtain ⟨k₁,hk,hs⟩:=harr₂.2 rfl rfl
   exact ⟨.returned v,w₄,hR,StepsIn.trans s2 (StepsIn.trans hs (.one (fenced_calm (fr:=b.atR a₂ (.code (.exit id)::k₁)) hF2 hr' rfl) (stepR_round_exit rfl rfl hk hend)))⟩
  | goto t =>
   obtain ⟨v,w₄,hend,hR⟩:=hq₂
   obtain ⟨k₁,hk,hs⟩:=harr₂.2 rfl rfl
   exact ⟨.returned v,w₄,hR,StepsIn.trans s2 (StepsIn.trans hs (.one (fenced_calm (fr:=b.atR a₂ (.code (.goto t)::k₁)) hF2 hr' rfl) (stepR_round_goto rfl rfl hk hend)))⟩
  | panic ch =>
   obtain ⟨todo,hs⟩:=harr₂
   obtain ⟨e',w₄,fr',hR,hs2,hfn,hl⟩:=leaves_stepsInM a₂.defers (.panicking ch) w₃ { b.atR a₂ todo with mode:=.panicking ch } (c::cs) rfl rfl rfl hfc rfl hF hr0 hq₂
   have hF':(FF P none).fn fr'.fn:=by rw [hfn];exact hF
   cases e' with
   | returned v=>exact ⟨.returned v,w₄,hR,StepsIn.trans s2 (StepsIn.trans hs (StepsIn.trans hs2 (.one (fenced_leaving (n:=0) hF' hr0 hl) (step_leave_returned hl))))⟩
   | panicked chain=>exact ⟨.panicked chain,w₄,hR,StepsIn.trans s2 (StepsIn.trans hs (StepsIn.trans hs2 (.one (fenced_leaving (n:=0) hF' hr0 hl) (step_leave_panicked hl))))⟩
   | outgrown=>exact ⟨.outgrown,w₄,hR,ComesIn.of_steps (e:=.outgrown) (StepsIn.trans s2 hs) hs2⟩
  | outgrown=>exact hq₂.elim
 | exit id=>exact hq.elim
 | goto t=>exact hq.elim
 | ret=>exact hq.elim
 | panic ch =>
  obtain ⟨todo,hs⟩:=harr
  obtain ⟨e',w₄,fr',hR,hs2,hfn,hl⟩:=leaves_stepsInM a₁.defers (.panicking ch) w₁ { b.atR a₁ todo with mode:=.panicking ch } (c::cs) rfl rfl rfl hfc rfl hF hr0 hq
  have hF':(FF P none).fn fr'.fn:=by rw [hfn];exact hF
  cases e' with
  | returned v=>exact ⟨.returned v,w₄,hR,StepsIn.trans hs (StepsIn.trans hs2 (.one (fenced_leaving (n:=0) hF' hr0 hl) (step_leave_returned hl)))⟩
  | panicked chain=>exact ⟨.panicked chain,w₄,hR,StepsIn.trans hs (StepsIn.trans hs2 (.one (fenced_leaving (n:=0) hF' hr0 hl) (step_leave_panicked hl)))⟩
  | outgrown=>exact ⟨.outgrown,w₄,hR,ComesIn.of_steps (e:=.outgrown) hs hs2⟩
 | outgrown=>exact hq.elim
section
variable {cx:Cx}
theorem no_open {s:ASt} {g:Operand} {nt:Nat} {an:LoopAnn} {ps:Array Nat} {two:Bool} {elt:Ty} (h:roundOk nt s an g ps two elt=true) {K:Ctx} {a:Act} {w:World} {β:Nat→Loc} (hr:RelB K s a w β) (hn:NoG s):(ev cx s [] 0 g).open? s=[]:=by
 simp only [roundOk,Bool.and_eq_true] at h
 cases g with
 | tmp t =>
  have h2:=h.2
  simp only [ev]
  rw [hn t]
  simpa [subList] using h2
 | const v =>
  simp only [ev]
  unfold constAV
  split
  ·rename_i k n
   cases (decide (kMin k≤n)&&decide (n≤kMax k))<;>rfl
  ·rfl
  ·split<;>rfl
  ·split<;>rfl
  ·split<;>rfl
  ·rfl
 | func f=>rfl
 | global _=>rfl
theorem SV.within_sub2 {l l':List Nat} (h:∀ o∈l,o∈l') {v:SV} (hv:v.within l=true):v.within l'=true:=by
 cases v<;>first | rfl | exact memN_iff.2 (h _ (memN_iff.1 hv))
theorem AV.within_sub2 {l l':List Nat} (h:∀ o∈l,o∈l') {v:AV} (hv:v.within l=true):v.within l'=true:=by
 have hl:∀ {c:List SV},c.all (SV.within l)=true→c.all (SV.within l')=true:=by
  intro c hc
  rw [List.all_eq_true] at hc ⊢
  exact fun x hx=>SV.within_sub2 h (hc x hx)
 cases v<;>first | rfl | exact SV.within_sub2 h hv | exact hl hv | cases hv
theorem AV.withinH_sub2 {l l':List Nat} (h:∀ o∈l,o∈l') {v:AV} (hv:v.withinH l=true):v.withinH l'=true:=by
 cases v with
 | ri o g i=>exact memN_iff.2 (h _ (memN_iff.1 hv))
 | rie o g i j t=>exact memN_iff.2 (h _ (memN_iff.1 hv))
 | un=>exact AV.within_sub2 (v:=.un) h hv
 | yl a=>exact AV.within_sub2 (v:=.yl a) h hv
 | mv a b c=>exact AV.within_sub2 (v:=.mv a b c) h hv
 | bm a b=>exact AV.within_sub2 (v:=.bm a b) h hv
 | ag a b c=>exact AV.within_sub2 (v:=.ag a b c) h hv
 | ex a=>exact AV.within_sub2 (v:=.ex a) h hv
 | sn a b c d=>exact AV.within_sub2 (v:=.sn a b c d) h hv
 | rqe a b c=>exact AV.within_sub2 (v:=.rqe a b c) h hv
 | s a=>exact AV.within_sub2 (v:=.s a) h hv
 | clo a b=>exact AV.within_sub2 (v:=.clo a b) h hv
 | tup a=>exact AV.within_sub2 (v:=.tup a) h hv
theorem exit_head {K:Ctx} {s s' hh:ASt} {a:Act} {w:World} {β:Nat→Loc} {an:LoopAnn} {ds:List Nat} {G:ASt→Prop} (hcx:CxOk K.P cx) (hf:Fit K cx) (h:RelB K s' a w β) (hn':NoG s') (hn:NoG s)
  (he:exitAt cx s s' hh (exAnn s' an) ds G) (hps:∀ o b,K.pos o=some b→s.obs o≠none)
  (henv:keptOk cx ds hh s'=true→∀ t,t∉ds→t<cx.nt→(s.env t).v.withinH (an.objs++an.keep)=true→isUn (s.env t).v=false→s'.env t=s.env t) :
  ∃ S β',G S∧NoG S∧(∀ t∈ds,S.env t=⟨[],.un⟩)∧RelB K S a w β':=by
 have hsub:∀ o∈(exAnn s' an).objs++(exAnn s' an).keep,o∈an.objs++an.keep:=by
  intro o ho
  rcases List.mem_append.1 ho with ho | ho
  ·exact List.mem_append.2 (.inl (List.mem_filter.1 ho).1)
  ·exact List.mem_append.2 (.inr (List.mem_filter.1 ho).1)
 have hsl:(exAnn s' an).slots=[]:=rfl
 generalize exAnn s' an=e at he hsub hsl
 unfold exitAt at he
 split at he
 ·exact he.elim
 rename_i hs hshp
 split at he
 rotate_left
 ·exact he.elim
 rename_i x' l hcol hsame
 rw [Bool.cond_eq_ite] at he
 split at he
 rotate_left
 ·exact he.elim
 rename_i hc
 simp only [Bool.and_eq_true] at hc
 obtain ⟨c1,c2,c3,c4⟩:=hc
 obtain ⟨hall,hG⟩:=conj_out he
 have hm:Match e.slots e.objs hs:=by rw [hsl];exact objs_match hshp
 obtain ⟨β',hr,_⟩:=loop_head (K:=K) (nt:=cx.nt) (ds:=ds) (s₀:=s) hcx hf h hn' hn c1 c2 c3 hm (by rw [hsl];exact hcol) hps (fun o ho ob hob=>sameObs_eq hsame hall o ho ob hob)
  (fun t ht1 ht2 ht3 ht4=>henv c4 t ht1 ht2 (AV.withinH_sub2 hsub ht3) ht4)
 rw [hsl] at hr
 refine ⟨_,β',hG,noG_spread (noG_base hn),?_,hr⟩
 intro t ht
 rw [spread_fr (ds:=[]) (fun y hy=>by cases hy) t (by simp)]
 simp only [headBase,memN_iff.2 ht,Bool.true_or,cond_true]
set_option maxHeartbeats 1000000 in
theorem range_rule:RangeRule cx:=by
 intro K r n g ps x y hcx hf hsx hsy hrf hfx M Q Qm s a w β hv h hn hp hj
 simp only [vc] at hv
 split at hv
 ·exact hv.elim
 rename_i an hann
 obtain ⟨β,h⟩:=canon_rel (ann:=an) (hf.mg M) ⟨β,h⟩
 have hn:NoG (canon cx s an):=noG_env (canon_env _) hn
 revert hv h hn
 generalize canon cx s an=s
 intro hv h hn
 split at hv
 ·rename_i two elt F hdv
  split at hv
  ·rename_i hs hsl hshp
   split at hv
   ·exact hv.elim
   ·rename_i x₀ hx₀
    cases hc:(annOk cx.yl an (rangeDs ps x y)&&(entryOk s an&&(keepOk s an&&roundOk cx.nt s an g ps two elt))) with
    | false=>rw [hc] at hv;exact hv.elim
    | true =>
     rw [hc] at hv
     simp only [Bool.and_eq_true] at hc
     obtain ⟨c1,c2,c3,c4⟩:=hc
     simp only [cond_true] at hv
     obtain ⟨hpre,I,i0,i1,i2⟩:=hv
     have hJt:cx.yl=none→∀ g G M w,K.J g G M w:=fun hyl=>by have:=hf.yl;rw [hyl] at this;exact this.1
     have hJy:cx.yl.isSome=true→∃ y,cx.yl=some y∧YFit K y:=by
      intro hy
      obtain ⟨y,hy⟩:=Option.isSome_iff_exists.1 hy
      have:=hf.yl
      rw [hy] at this
      exact ⟨y,hy,this⟩
     have hJn:¬ K.nod:=by
      have:=hf.yl
      split at this
      ·exact this.2
      ·exact this.nod
     have c1':annOk cx.yl an (rangeDs ps x y)=true:=c1
     have hm:Match an.slots an.objs hs:=by rw [hsl];exact objs_match hshp
     obtain ⟨hd,hhd⟩:∃ hd:Shps hs→ASt,hd=fun z=>spread (headBase cx.nt s an (rangeDs ps x y)) [] an.objs hs z:=⟨_,rfl⟩
     have ehd:∀ z,spread (headBase cx.nt s an (rangeDs ps x y)) [] an.objs hs z=hd z:=fun z=>by rw [hhd]
     have ehd':∀ z,spread (headBase cx.nt s an (rangeDs ps x y)) an.slots an.objs hs z=hd z:=fun z=>by rw [hhd,hsl]
     simp only [ehd] at i1 i2
     have hnog:∀ z,NoG (hd z):=fun z=>by rw [hhd];exact noG_spread (noG_base hn)
     have hdun:∀ z t,t∈rangeDs ps x y→(hd z).env t=⟨[],.un⟩:=by
      intro z t ht
      rw [hhd]
      simp only
      rw [spread_fr (ds:=[]) (fun y hy=>by cases hy) t (by simp)]
      simp only [headBase,memN_iff.2 ht,Bool.true_or,cond_true]
     obtain ⟨β₀,hr0,ht0⟩:=loop_head (K:=K.mg M) (nt:=cx.nt) (ds:=rangeDs ps x y) hcx (hf.mg M) h hn hn c1' c2 c3 hm (by rw [hsl];exact hx₀) h.posne (fun _ _ _ h=>h) (fun _ _ _ _ _=>rfl)
     rw [ehd'] at hr0 ht0
     change Tr (Mset M s β) w (Mset M (hd x₀) β₀) w at ht0
     have hgv:=ev_rep (cx:=cx) h (g:=[]) (fun x hx=>by cases hx) 0 g
     have hno:=no_open (cx:=cx) c4 h hn
     have hseq:VRep K.P (.sq two elt) w (Mset M s β) (a.eval g) F:=AV.dv_rep (K:=K.mg M) hcx h hgv hdv ⟨fun b hb=>hb,fun o ho=>by rw [hno] at ho;cases ho⟩
     obtain ⟨cs,hsq,egv⟩:=hseq
     have hsq:=hsq.tr ht0
     obtain ⟨v,rfl,_,hit⟩:=hsq
     have egv:a.eval g=v:=egv
     simp only [roundOk,Bool.and_eq_true] at c4
     have hps:psOk K.nt two elt ps.toList=true:=by rw [←hf.nt];exact c4.1
     refine wpIn_rangeFunc fun fn hfn=>?_
     obtain ⟨fc,hfc⟩:=Option.isSome_iff_exists.1 (show (K.P.funcs[fn]?).isSome=true from hfn)
     obtain ⟨l,mark,w1,rc,hent,hext,hlw,hrc,hlsz,hmnd,hmark⟩:=enter_facts h hrf fn ps x y
     have hl1:l<w1.heap.size:=(Array.getElem?_eq_some_iff.1 hlw).1
     obtain ⟨Dl,hD1,hD2⟩:∃ Dl:List Nat,(∀ d∈mark++a.defers,∃ D∈Dl,d={ target:=.collected D,args:=#[] })∧∀ D∈Dl,w1.heap[D]?=some (.deferred (some []))∧(¬ M D∧K.w0.heap.size≤D):=by
      refine ⟨(mark++a.defers).map fun d=>match d.target with | .collected D=>D | _=>0,?_,?_⟩
      ·intro d hdm
       have:∃ D,d={ target:=.collected D,args:=#[] }:=by
        rcases List.mem_append.1 hdm with hdm | hdm
        ·obtain ⟨D,e,_⟩:=hmark d hdm;exact ⟨D,e⟩
        ·obtain ⟨D,e,_⟩:=h.defs d hdm;exact ⟨D,e⟩
       obtain ⟨D,rfl⟩:=this
       exact ⟨D,List.mem_map.2 ⟨_,hdm,rfl⟩,rfl⟩
      ·intro D hDm
       obtain ⟨d,hdm,rfl⟩:=List.mem_map.1 hDm
       rcases List.mem_append.1 hdm with hdm | hdm
       ·obtain ⟨D,rfl,e1,e2⟩:=hmark d hdm
        exact ⟨e1,fun hM=>by have:=h.mg D hM;omega,Nat.le_trans h.frame.1 e2⟩
       ·obtain ⟨D,rfl,e1,e2⟩:=h.defs d hdm
        exact ⟨(hext.2 D (Array.getElem?_eq_some_iff.1 e1).1 id).trans e1,e2⟩
     obtain ⟨pins,hpinsE⟩:∃ pins:Loop→List (Nat × Obj),pins=fun rc=>(l,.loop rc)::(Dl.map (fun D=>(D,.deferred (some [])))++K.pins):=⟨_,rfl⟩
     have hpl:∀ q:Nat × Obj,q∈Dl.map (fun D=>(D,.deferred (some [])))++K.pins→q.1≠l:=by
      intro q hq e
      rcases List.mem_append.1 hq with hq | hq
      ·obtain ⟨D,hDm,rfl⟩:=List.mem_map.1 hq
       have e:D=l:=e
       rw [e] at hDm
       have:=(hD2 l hDm).1
       rw [hlw] at this;cases this
      ·have:=(Array.getElem?_eq_some_iff.1 (h.pins q hq).1).1
       omega
     obtain ⟨fix,hfixE⟩:∃ fix:Nat→Option Value,fix=fun t=>cond (memN t (rangeDs ps x y)) none (some (a.tmps.getD t undef)):=⟨_,rfl⟩
     have hfix0:∀ t v,fix t=some v→a.tmps.getD t undef=v:=by
      intro t v hv
      rw [hfixE] at hv
      simp only at hv
      cases hb:memN t (rangeDs ps x y) with
      | true=>rw [hb] at hv;cases hv
      | false=>rw [hb] at hv;exact Option.some.inj hv
     have hfixn:∀ t∈rangeDs ps x y,fix t=none:=by
      intro t ht
      rw [hfixE]
      simp only [memN_iff.2 ht,cond_true]
     have hdnd:((mark++a.defers).map dof).Nodup:=by
      rw [List.map_append,List.nodup_append]
      refine ⟨hmnd,h.dnd,?_⟩
      intro p hp q hq e
      obtain ⟨d,hd,rfl⟩:=List.mem_map.1 hp
      obtain ⟨d',hd',rfl⟩:=List.mem_map.1 hq
      obtain ⟨D,rfl,_,k1⟩:=hmark d hd
      obtain ⟨D',rfl,k2,_⟩:=h.defs d' hd'
      have:=(Array.getElem?_eq_some_iff.1 k2).1
      have e:D=D':=e
      omega
     let a₀:Act:={ tmps:=a.tmps,defers:=[] }
     let Core:Loop→ASt→(Nat→Loc)→(Nat→Prop)→(Nat→Prop)→World→Prop:=fun rc S β G Mo w' =>
      ∃ M₀:Nat→Prop,((cx.yl=none→M₀=M)∧(∀ b,b<w1.heap.size→M₀ b→M b)∧w1.heap.size≤w'.heap.size)∧(RelB (KR K (fun b=>(M₀ b∨G b)∨b=l) K.w0 K.Ml K.Mf K.mlf (pins rc) fix) S a₀ w' β∧NoG S)∧Mo=(fun b=>Mset M₀ S β b∨b=l)∧K.J (ghOf (S.obs K.gid)) (fun b=>Own S β b∨(G b∨b=l)) M₀ w'∧(∀ b,(G b∨b=l)→¬ M₀ b∧K.w0.heap.size≤b∧b<w'.heap.size)
     have coreLt:∀ {rc S β G Mo w'},Core rc S β G Mo w'→∀ b,Mo b→b<w'.heap.size:=by
      rintro rc S β G Mo w' ⟨M₀,_,⟨hrel,hngS⟩,rfl,_,_⟩ b (hb | rfl)
      ·rcases hb with hb | ⟨o,ob,h1,h2,h3⟩
       ·exact hrel.mg b (.inl (.inl hb))
       ·exact hrel.blk_lt h1 h3
      ·exact hrel.mg b (.inr rfl)
     have pinLt:∀ {rc},∀ q∈pins rc,q.1<w1.heap.size:=by
      intro rc q hq
      rw [hpinsE] at hq
      rcases List.mem_cons.1 hq with rfl | hq
      ·exact hl1
      ·rcases List.mem_append.1 hq with hq | hq
       ·obtain ⟨D,hDm,rfl⟩:=List.mem_map.1 hq
        exact (Array.getElem?_eq_some_iff.1 (hD2 D hDm).1).1
       ·exact Nat.lt_of_lt_of_le (Array.getElem?_eq_some_iff.1 (h.pins q hq).1).1 hext.1
     have coreStab:∀ {rc S β G Mo w' G' w₂},Core rc S β G Mo w'→TrD w1.heap.size Mo G w' G' w₂→(∀ b,G b→¬ Mo b∧w1.heap.size≤b)→(∀ b,G' b→b<w₂.heap.size)→Core rc S β G' Mo w₂:=by
      rintro rc S β G Mo w' G' w₂ ⟨M₀,hM₀,⟨hrel,hngS⟩,rfl,hJc,hside⟩ ht hG hG'
      have hw01:K.w0.heap.size≤w1.heap.size:=Nat.le_trans h.frame.1 hext.1
      have hGb:∀ o ob b,S.obs o=some (some ob)→(β o).has b→¬ G b:=fun o ob b ho hb hg=>hrel.dis o ob b ho hb (.inl (.inr hg))
      refine ⟨M₀,⟨hM₀.1,hM₀.2.1,Nat.le_trans hM₀.2.2 ht.1.1⟩,⟨hrel.re rfl rfl rfl (fun t=>.inr ⟨rfl,hngS t⟩) ?_ ?_ ?_ ?_ ?_ hrel.rng (fun d hd=>by cases hd) ?_ List.nodup_nil (fun h=>h.elim) trivial hfix0 rfl,hngS⟩,rfl,?_,?_⟩
      ·refine ⟨Nat.le_trans hrel.frame.1 ht.1.1,fun b hb hn'=>?_,ht.1.io.1.trans hrel.frame.io.1,ht.1.io.2.trans hrel.frame.io.2⟩
       have hb':b<K.w0.heap.size:=hb
       rcases ht.1.2 b (Nat.lt_of_lt_of_le hb hrel.frame.1) (fun hg=>by have:=(hG b hg).2;omega) with e | ⟨e,_⟩
       ·exact e.trans (hrel.frame.2 b hb hn')
       ·omega
      ·intro b hb
       rcases hb with (hb | hb) | hb
       ·exact Nat.lt_of_lt_of_le (hrel.mg b (.inl (.inl hb))) ht.1.1
       ·exact hG' b hb
       ·exact Nat.lt_of_lt_of_le (hrel.mg b (.inr hb)) ht.1.1
      ·intro o ob b ho hb hM
       rcases hM with (hM | hM) | hM
       ·exact hrel.dis o ob b ho hb (.inl (.inl hM))
       ·exact hGb o ob b ho hb (ht.2 b (hrel.blk_lt ho hb) hM)
       ·exact hrel.dis o ob b ho hb (.inr hM)
      ·refine ⟨ht.1.loose.mono fun b _ hb=>.inl (.inl (.inr hb)),fun b hb hm=>?_⟩
       rcases hm with ((hm | hm) | hm) | hm
       ·exact .inl (.inl (.inl hm))
       ·exact .inl (.inl (.inr (ht.2 b hb hm)))
       ·exact .inl (.inr hm)
       ·exact .inr hm
      ·intro o ob b ho hb
       rcases ht.1.2 b (hrel.blk_lt ho hb) (hGb o ob b ho hb) with e | ⟨_,_,ob',k1,k2⟩
       ·exact e
       ·exact (obj_not_loop hrel ho hb k1 k2).elim
      ·intro q hq
       obtain ⟨h1,h2⟩:=hrel.pins q hq
       have hlt:q.1<w'.heap.size:=(Array.getElem?_eq_some_iff.1 h1).1
       have hp:=pinLt q hq
       rcases ht.1.2 q.1 hlt (fun hg=>by have:=(hG _ hg).2;omega) with e | ⟨e,_⟩
       ·exact ⟨e.trans h1,h2⟩
       ·omega
      ·refine K.Jst _ _ _ _ _ _ hJc ⟨ht.1.mono hw01 (fun b hb=>.inl (.inl hb)) (fun b _ hb=>.inr (.inl hb)),fun b hb hm=>hm.imp id fun h=>h.imp (ht.2 b hb) id⟩ ?_ ?_
       ·rintro b (⟨o,ob,k1,k2,k3⟩ | hb)
        ·exact ⟨fun hm=>hrel.dis o ob b k1 k3 (.inl (.inl hm)),hrel.rng o ob b k1 k2 k3⟩
        ·exact ⟨(hside b hb).1,.inl (hside b hb).2.1⟩
       ·rintro b (⟨o,ob,k1,k2,k3⟩ | hb | hb)
        ·exact Nat.lt_of_lt_of_le (hrel.blk_lt k1 k3) ht.1.1
        ·exact hG' b hb
        ·exact Nat.lt_of_lt_of_le (hside b (.inr hb)).2.2 ht.1.1
      ·rintro b (hb | hb)
       ·by_cases hlt:b<w'.heap.size
        ·have:=hside b (.inl (ht.2 b hlt hb))
         exact ⟨this.1,this.2.1,hG' b hb⟩
        ·have hfr:K.w0.heap.size≤w'.heap.size:=hrel.frame.1
         exact ⟨fun hm=>hlt (hrel.mg b (.inl (.inl hm))),by omega,hG' b hb⟩
       ·have:=hside b (.inr hb)
        exact ⟨this.1,this.2.1,Nat.lt_of_lt_of_le this.2.2 ht.1.1⟩
     have core0:Core rc (hd x₀) β₀ (fun _=>False) (fun b=>Mset M (hd x₀) β₀ b∨b=l) w1:=by
      have hr01:=hr0.grow hext
      have hlM:¬ M l:=fun hm=>by have:=hr0.mg l hm;omega
      have hw0:K.w0.heap.size≤w.heap.size:=h.frame.1
      refine ⟨M,⟨fun _=>rfl,fun _ _ h=>h,Nat.le_refl _⟩,⟨hr0.re rfl rfl rfl (fun t=>.inr ⟨rfl,hnog x₀ t⟩) hr01.1.frame ?_ ?_ ?_ (fun o ob b ho hb=>hext.2 b (hr0.blk_lt ho hb) id) hr0.rng (fun d hd=>by cases hd) ?_ List.nodup_nil (fun h=>h.elim) trivial hfix0 rfl,hnog x₀⟩,rfl,?_,?_⟩
      ·rintro b ((hb | hb) | rfl)
       ·exact hr01.1.mg b hb
       ·exact hb.elim
       ·exact hl1
      ·rintro o ob b ho hb ((hM | hM) | rfl)
       ·exact hr0.dis o ob b ho hb hM
       ·exact hM
       ·have:=hr0.blk_lt ho hb;omega
      ·refine ⟨(hext.mono fun _ _ h=>h.elim).loose,fun b hb hm=>?_⟩
       rcases hm with ((hm | hm) | rfl) | hm
       ·exact .inl hm
       ·exact hm.elim
       ·omega
       ·exact .inr hm
      ·intro q hq
       rw [hpinsE] at hq
       rcases List.mem_cons.1 hq with rfl | hq
       ·exact ⟨hlw,rfl⟩
       ·rcases List.mem_append.1 hq with hq | hq
        ·obtain ⟨D,hDm,rfl⟩:=List.mem_map.1 hq
         exact ⟨(hD2 D hDm).1,rfl⟩
        ·exact hr01.1.pins q hq
      ·refine K.Jst _ _ _ _ _ _ hr0.gh (Trx.d ⟨hext.mono fun _ _ h=>h.elim,fun b hb hm=>?_⟩) ?_ ?_
       ·rcases hm with hm | hm | hm
        ·exact hm
        ·exact hm.elim
        ·omega
       ·rintro b ⟨o,ob,k1,k2,k3⟩
        exact ⟨hr0.dis o ob b k1 k3,hr0.rng o ob b k1 k2 k3⟩
       ·rintro b (⟨o,ob,k1,k2,k3⟩ | hb | hb)
        ·exact Nat.lt_of_lt_of_le (hr0.blk_lt k1 k3) hext.1
        ·exact hb.elim
        ·exact hb▸hl1
      ·rintro b (hb | rfl)
       ·exact hb.elim
       ·exact ⟨hlM,by omega,hl1⟩
     let J:List elt.D→(Nat→Prop)→(Nat→Prop)→World→Prop:=fun p G Mo w'=>∃ z β q,(F:Seq elt.D).val=p++q∧I q z∧Core rc (hd z) β G Mo w'
     let Jx:List elt.D→(Nat→Prop)→(Nat→Prop)→World→Prop:=fun _ G Mo w'=>∃ S β jump,((jump=.ret∧Q .ret S)∨∃ i,jump=.exit i∧Q (.exit i) S)∧Core { rc with state:=.done,pending:=some jump } S β G Mo w'
     let Jp:List PanicEntry→World→Prop:=fun ch w'=>(cx.yl=none∧Q (.panic ch) goneAll∧∃ β,RelB (K.mg M) goneAll { a with defers:=mark++a.defers } w' β)∨(cx.yl.isSome=true∧K.jp ch w'∧∀ D∈Dl,w'.heap[D]?=some (.deferred (some [])))
     have hw01:K.w0.heap.size≤w1.heap.size:=Nat.le_trans h.frame.1 hext.1
     have jpStab:∀ ch w₁ w₂,Jp ch w₁→ExtD w1.heap.size noM noM w₁ w₂→Jp ch w₂:=by
      rintro ch w₁ w₂ hjp hx
      have old:∀ b o,b<w1.heap.size→w₁.heap[b]?=some o→w₂.heap[b]?=some o:=by
       intro b o hb ho
       rcases hx.2 b (Array.getElem?_eq_some_iff.1 ho).1 id with e | ⟨e,_⟩
       ·exact e.trans ho
       ·omega
      rcases hjp with ⟨e1,e2,β,hR⟩ | ⟨e1,e2,e3⟩
      ·refine .inl ⟨e1,e2,β,⟨Nat.le_trans hR.frame.1 hx.1,fun b hb hn'=>?_,hx.io.1.trans hR.frame.io.1,hx.io.2.trans hR.frame.io.2⟩,fun b hb=>Nat.lt_of_lt_of_le (hR.mg b hb) hx.1,fun _ _ _ h=>(by cases h),fun _ _ h=>(by cases h),fun _ _ _ _ _ h=>(by cases h),fun _ _ _ h=>(by cases h),fun t=>⟨fun _=>trivial,fun hh=>absurd (fun x hx=>by cases hx) hh⟩,hR.size,fun d hd=>?_,hR.dnd,hR.nod,fun q hq=>?_,hJt e1 _ _ _ _,hR.fix,hR.pos,fun _ _ h=>by cases h⟩
       ·have hb':b<K.w0.heap.size:=hb
        rcases hx.2 b (Nat.lt_of_lt_of_le hb hR.frame.1) id with e | ⟨e,_⟩
        ·exact e.trans (hR.frame.2 b hb hn')
        ·omega
       ·obtain ⟨D,k1,k2,k3⟩:=hR.defs d hd
        obtain ⟨D',hDm,k4⟩:=hD1 d hd
        rw [k1] at k4
        cases k4
        exact ⟨D,k1,old D _ (Array.getElem?_eq_some_iff.1 (hD2 D hDm).1).1 k2,k3⟩
       ·obtain ⟨k1,k2⟩:=hR.pins q hq
        exact ⟨old q.1 _ (Nat.lt_of_lt_of_le (Array.getElem?_eq_some_iff.1 (h.pins q hq).1).1 hext.1) k1,k2⟩
      ·exact .inr ⟨e1,K.jpst _ _ _ e2 (hx.mono hw01 (fun _ h=>h) fun _ _ h=>h),fun D hD=>old D _ (Array.getElem?_eq_some_iff.1 (hD2 D hD).1).1 (e3 D hD)⟩
     have htr1:Tr (Mset M (hd x₀) β₀) w (fun b=>Mset M (hd x₀) β₀ b∨b=l) w1:=by
      refine ⟨(hext.mono fun _ _ h=>h.elim).loose,fun b hb hm=>?_⟩
      rcases hm with hm | rfl
      ·exact hm
      ·omega
     obtain ⟨f,caps,rfl,hentf,hiter⟩:=hit w1 _ htr1 (coreLt core0) hpre
     have hcalls:=hiter l J Jx Jp (fun p G M₁ w₁ G' w₂ ⟨z,β,q,h1,h2,h3⟩ ht hG hG'=>⟨z,β,q,h1,h2,coreStab h3 ht hG hG'⟩)
      (fun p G M₁ w₁ G' w₂ ⟨z,β,q,h1,h3⟩ ht hG hG'=>⟨z,β,q,h1,coreStab h3 ht hG hG'⟩)
      (fun p G M₁ w₁ ⟨z,β,q,h1,h2,h3⟩=>coreLt h3) (fun p G M₁ w₁ ⟨z,β,q,h1,h3⟩=>coreLt h3) jpStab ?round ⟨x₀,β₀,_,rfl,i0,core0⟩
     case round =>
      rintro p e q G Mo w' us hval ⟨z,βz,q',hval',hI,hcore⟩ hRE hG hG2
      have hq':q'=e::q:=List.append_cancel_left (hval'.symm.trans hval)
      subst hq'
      obtain ⟨M₀,⟨hM₀,hMold,hw1'⟩,⟨hrel,_⟩,rfl,hJc,hside⟩:=hcore
      have hb:=i1 e q z hI
      have hlpin:w'.heap[l]?=some (.loop rc):=(hrel.pins (l,.loop rc) (by rw [hpinsE];exact List.mem_cons_self)).1
      let OwnZ:Nat→Prop:=Own (hd z) βz
      let MG:Nat→Prop:=fun b=>(M₀ b∨G b)∨b=l
      let Mz:Nat→Prop:=fun b=>cx.yl.isSome=true∧M₀ b∧¬ K.Mx b
      let Fs:Nat→Prop:=fun b=>Mset M₀ (hd z) βz b∨b=l
      have hw0':K.w0.heap.size≤w'.heap.size:=hrel.frame.1
      have hml:∀ b,OwnZ b→K.w0.heap.size≤b∨K.Ml b:=by
       rintro b ⟨o,ob,k1,k2,k3⟩
       exact hrel.rng o ob b k1 k2 k3
      let KB:Loop→Ctx:=fun rc=>KN cx.yl K G l MG M₀ w' OwnZ (fun b=>(OwnZ b∨b=l)∨Mz b) Fs (fun b hb=>.inl (.inl hb)) hml (fun b hb=>.inl (.inr hb)) hw0' (pins rc) fix
      have hDM:∀ D∈Dl,¬ M₀ D:=fun D hD hm=>(hD2 D hD).2.1 (hMold D (Array.getElem?_eq_some_iff.1 (hD2 D hD).1).1 hm)
      have hfitB:∀ rc,Fit (KB rc) cx:=fun rc'=>KN_fit hf (fun b hb=>.inl (.inl hb)) (fun hy b hb hx=>.inr ⟨hy,hb,hx⟩) (by
       intro hy q hq
       obtain ⟨yy,_,hyf⟩:=hJy hy
       have hq':q∈(l,Obj.loop rc')::(Dl.map (fun D=>(D,Obj.deferred (some [])))++K.pins):=by rw [hpinsE] at hq;exact hq
       rcases List.mem_cons.1 hq' with rfl | hq2
       ·exact ⟨(Array.getElem?_eq_some_iff.1 hlpin).1,fun _=>.inr rfl⟩
       ·refine ⟨(Array.getElem?_eq_some_iff.1 (hrel.pins q (by show _∈pins rc;rw [hpinsE];exact List.mem_cons_of_mem _ hq2)).1).1,fun hm=>.inl ?_⟩
        rcases List.mem_append.1 hq2 with hq2 | hq2
        ·obtain ⟨D,hDm,rfl⟩:=List.mem_map.1 hq2
         exact absurd hm (hDM D hDm)
        ·exact hyf.pins _ _ _ _ hJc q hq2 hm)
      have hghB:∀ rc,(KB rc).J (ghOf ((hd z).obs (KB rc).gid)) (Own (hd z) βz) MG w':=by
       intro rc
       exact JK_intro (o:=cx.yl) fun _=>⟨M₀,rfl,hJc,fun _ _ h=>h,hside,.refl _ _⟩
      have hrfB:∀ rc,RFit (KB rc) (some l):=fun rc=>⟨rc,by show (l,Obj.loop rc)∈pins rc;rw [hpinsE];exact List.mem_cons_self⟩
      have hrel1:RelB (KB rc) (hd z) a₀ w' βz :=
       hrel.re rfl rfl rfl (fun t=>.inr ⟨rfl,hnog z t⟩) (.refl _ _) hrel.mg hrel.dis (.refl _ _) (fun _ _ _ _ _=>rfl) (fun o ob b ho hf' hb'=>.inr ⟨o,ob,ho,hf',hb'⟩) (fun d hd=>by cases hd) hrel.pins List.nodup_nil (fun h=>h.elim) (hghB rc) hfix0 rfl
      have hRE':∃ cs,YR two elt us cs∧Rep K.P elt w' (Mset MG (hd z) βz) cs e:=by
       obtain ⟨cs,k1,k2⟩:=hRE
       refine ⟨cs,k1,k2.tr ⟨.refl _ _,fun b _ hm=>?_⟩⟩
       rcases hm with ((hm | hm) | hm) | hm
       ·exact .inl (.inl (.inl hm))
       ·exact .inr hm
       ·exact .inl (.inr hm)
       ·exact .inl (.inl (.inr hm))
      obtain ⟨hrel2,hn2,hsz⟩:=putPs_rel hrel1 (hnog z) (ps:=ps) hps (fun p hp=>hfixn p (List.mem_append.2 (.inl hp))) hRE'
      have hrun:=run_yield (P:=K.P) (args:=us.toArray) hlpin (by rw [hrc];exact hsz)
      let RR:Ending→World→Prop:=fun r w₂=>(r=.returned (.bool true)∧∃ M₂,J (p++[e]) G M₂ w₂∧Trx Fs w' M₂ w₂)∨(r=.returned (.bool false)∧∃ M₂,Jx (p++[e]) G M₂ w₂∧Trx Fs w' M₂ w₂)∨∃ ch,r=.panicked ch∧Jp ch w₂∧Ext Fs w' w₂
      have hpan:∀ (ch:List PanicEntry) (a':Act) (w3:World),jpK cx.yl K w' Fs ch w3→(∀ d∈a'.defers,∃ D,d={ target:=.collected D,args:=#[] }∧w3.heap[D]?=some (.deferred (some []))∧w'.heap.size≤D)→(a'.defers.map dof).Nodup→LeavesInM (FF K.P none) 0 K.P fc a'.tmps RR a'.defers (.panicking ch) w3:=by
       intro ch a' w3 hjp hdf hdn
       obtain ⟨hyy,j1,j2⟩:=jpK_elim hjp
       have hnew:∀ b,b∈a'.defers.map dof→w'.heap.size≤b∧w3.heap[b]?=some (.deferred (some [])):=by
        intro b hb
        obtain ⟨d,hd,rfl⟩:=List.mem_map.1 hb
        obtain ⟨D,rfl,k1,k2⟩:=hdf d hd
        exact ⟨k2,k1⟩
       refine leavesP (fun d hd=>by obtain ⟨D,e1,e2,_⟩:=hdf d hd;exact ⟨D,e1,e2⟩) hdn fun w'' h1 h2 hio=>.inr (.inr ⟨ch,rfl,.inr ⟨hyy,K.jpst _ _ _ j1 ⟨Nat.le_of_eq h1.symm,fun b hb _=>?_,hio⟩,?_⟩,?_⟩)
       ·by_cases hm:b∈a'.defers.map dof
        ·exact .inr ⟨Nat.le_trans hw0' (hnew b hm).1,id,_,(hnew b hm).2,rfl⟩
        ·exact .inl (h2 b hm)
       ·intro D hD
        have hpm:(D,Obj.deferred (some []))∈Dl.map (fun D=>(D,Obj.deferred (some [])))++K.pins:=List.mem_append.2 (.inl (List.mem_map.2 ⟨D,hD,rfl⟩))
        obtain ⟨p1,p2⟩:=hrel.pins (D,.deferred (some [])) (by show _∈pins rc;rw [hpinsE];exact List.mem_cons_of_mem _ hpm)
        have hlt:D<w'.heap.size:=(Array.getElem?_eq_some_iff.1 p1).1
        refine (h2 D fun hm=>by have:=(hnew D hm).1;omega).trans ((j2.2 D hlt ?_).trans p1)
        rintro ((hm | ⟨o,ob,g1,g2,g3⟩) | hm)
        ·exact hDM D hD hm
        ·exact obj_not_loop hrel g1 g3 p1 p2
        ·exact hpl _ hpm hm
       ·exact ⟨by rw [h1];exact j2.1,fun b hb hn=>(h2 b fun hm=>by have:=(hnew b hm).1;omega).trans (j2.2 b hb hn),hio.1.trans j2.io.1,hio.2.trans j2.io.2⟩
      have hput:∀ {rcA:Loop} {M3:Nat→Prop} {S:ASt} {a':Act} {w3:World} {β4:Nat→Loc},RelB ((KB rcA).mg M3) S a' w3 β4→∀ o:Obj,JK cx.yl K G l w' M₀ Fs (ghOf (S.obs K.gid)) (Own S β4) M3 (w3.putObj l o):=by
       intro rcA M3 S a' w3 β4 hr o
       have hj0:JK cx.yl K G l w' M₀ Fs (ghOf (S.obs K.gid)) (Own S β4) M3 w3:=hr.gh
       refine JK_intro fun ho=>?_
       ·have hj0:=JK_elim hj0 ho
        refine J1u_put hj0 (.inr rfl) ?_ ?_ o
        ·rintro b ⟨o2,ob2,k1,k2,k3⟩
         refine ⟨hr.dis o2 ob2 b k1 k3,?_⟩
         rcases hr.rng o2 ob2 b k1 k2 k3 with k4 | k4
         ·exact .inl (Nat.le_trans hw0' k4)
         ·exact hml b k4
        ·rintro b ⟨o2,ob2,k1,k2,k3⟩
         exact hr.blk_lt k1 k3
      refine ⟨_,_,_,_,hrun,roundIn_of_wpX (R:=RR) (fc:=fc) (by rw [hrc];exact hfc) ?_⟩
      have e1:rc.tmps=a.tmps:=by rw [hrc]
      have e2:rc.params=ps:=by rw [hrc]
      have e3:rc.assign=x:=by rw [hrc]
      have e4:rc.body=y:=by rw [hrc]
      rw [e1,e2,e3,e4]
      have hds1:∀ t∈Code.dsts x,t∈rangeDs ps x y:=fun t ht=>List.mem_append.2 (.inr (List.mem_append.2 (.inl ht)))
      have hds2:∀ t∈Code.dsts y,t∈rangeDs ps x y:=fun t ht=>List.mem_append.2 (.inr (List.mem_append.2 (.inr ht)))
      have hbF:=vc_frame x _ _ _ hb (fun ex s₁ hs₁ hfr=>And.intro hs₁ hfr)
      refine hsx (KB rc) (some l) 0 hcx (hfitB rc) (hrfB rc) (fun t ht=>hfixn t (hds1 t ht)) MG _ _ _ _ _ _ hbF hrel2 hn2 ?_ hpan
      intro M' hM' ex s₁ a₁ w₁ β₁ hq hrel3 hn3
      obtain ⟨hq,hfr1⟩:=hq
      have notl:∀ {K':Ctx} {s':ASt} {a':Act} {w'':World} {β':Nat→Loc},RelB K' s' a' w'' β'→∀ {rc'},w''.heap[l]?=some (.loop rc')→∀ o ob b,s'.obs o=some (some ob)→(β' o).has b→b≠l:=by
       intro K' s' a' w'' β' hrel' rc' hl' o ob b ho hb' e
       subst e
       exact obj_not_loop hrel' ho hb' hl' rfl
      have pinMove:∀ {w'':World} {rcA rcB:Loop},(∀ x∈pins rcA,w''.heap[x.1]?=some x.2∧mach x.2=true)→∀ x∈pins rcB,(w''.putObj l (.loop rcB)).heap[x.1]?=some x.2∧mach x.2=true:=by
       intro w'' rcA rcB hall q hq
       have hl0:=hall (l,.loop rcA) (by rw [hpinsE];exact List.mem_cons_self)
       have hlt:l<w''.heap.size:=(Array.getElem?_eq_some_iff.1 hl0.1).1
       rw [hpinsE] at hq
       rcases List.mem_cons.1 hq with rfl | hq
       ·exact ⟨World.putObj_heap_same hlt,rfl⟩
       ·obtain ⟨k1,k2⟩:=hall q (by rw [hpinsE];exact List.mem_cons_of_mem _ hq)
        exact ⟨(World.putObj_heap_other (hpl q hq)).trans k1,k2⟩
      have defMove:∀ {Mg:Nat→Prop} {ds:List Deferred} {w'':World} {o':Obj},(∀ d∈ds,∃ D,d={ target:=.collected D,args:=#[] }∧w''.heap[D]?=some (.deferred (some []))∧(¬ Mg D∧w'.heap.size≤D))→∀ {rc'},w''.heap[l]?=some (.loop rc')→∀ d∈ds,∃ D,d={ target:=.collected D,args:=#[] }∧(w''.putObj l o').heap[D]?=some (.deferred (some []))∧(¬ Mg D∧w'.heap.size≤D):=by
       intro Mg ds w'' o' hds rc' hl' d hd
       obtain ⟨D,k1,k2,k3⟩:=hds d hd
       refine ⟨D,k1,(World.putObj_heap_other fun e=>?_).trans k2,k3⟩
       rw [e,hl'] at k2;cases k2
      cases ex with
      | normal =>
       have hlp1:w₁.heap[l]?=some (.loop rc):=(hrel3.pins (l,.loop rc) (by show _∈pins rc;rw [hpinsE];exact List.mem_cons_self)).1
       refine ⟨_,run_beginRound hlp1 (by rw [hrc]),?_⟩
       have hrel4:RelB ((KB { rc with state:=.busy }).mg M') s₁ a₁ (w₁.putObj l (.loop { rc with state:=.busy })) β₁:=by
        refine hrel3.re rfl rfl rfl (fun t=>.inr ⟨rfl,hn3 t⟩) ?_ ?_ hrel3.dis ?_ ?_ hrel3.rng (defMove hrel3.defs hlp1) (pinMove hrel3.pins) hrel3.dnd (fun h=>h.elim) (hput hrel3 _) hrel3.fix rfl
        ·exact ⟨by rw [World.putObj_size];exact hrel3.frame.1,fun b hb' hn'=>(World.putObj_heap_other (fun e=>hn' (.inl (.inr e)))).trans (hrel3.frame.2 b hb' hn'),hrel3.frame.io⟩
        ·intro b hb';rw [World.putObj_size];exact hrel3.mg b hb'
        ·exact ⟨⟨by rw [World.putObj_size];exact Nat.le_refl _,fun b _ hn' hmm=>World.putObj_heap_other fun e=>by rw [e] at hmm;have:=hmm _ hlp1;cases this⟩,fun b _ hm=>hm⟩
        ·intro o ob b ho hb'
         exact World.putObj_heap_other (notl hrel3 hlp1 o ob b ho hb')
       have hbG:=vc_frame y _ _ _ hq (fun ex s' hs' hfr=>And.intro hs' hfr)
       refine hsy (KB { rc with state:=.busy }) (some l) 0 hcx (hfitB _) (hrfB _) (fun t ht=>hfixn t (hds2 t ht)) M' _ _ _ _ _ _ hbG hrel4 hn3 ?_ hpan
       intro M'' hM'' ex s' a' w3 β3 hq hrel5 hn5
       have hMM:cx.yl=none→M''=MG:=fun hyl=>(hM'' hyl).trans (hM' hyl)
       obtain ⟨hq,hfr2⟩:=hq
       split at hq
       ·rename_i ch hpn
        have hex:=pnc_some hpn
        subst hex
        cases hyl:cx.yl with
        | some _=>rw [hyl] at hq;exact hq.elim
        | none =>
        rw [hyl] at hq
        refine leavesP (fun d hd=>by obtain ⟨D,e1,e2,_⟩:=hrel5.defs d hd;exact ⟨D,e1,e2⟩) hrel5.dnd fun w'' h1 h2 hio=>?_
        have hfr5:Ext (fun b=>OwnZ b∨b=l) w' w3:=(show Ext (fun b=>(OwnZ b∨b=l)∨Mz b) w' w3 from hrel5.frame).mono fun b _ hb=>hb.resolve_right fun hz=>by have:=hz.1;rw [hyl] at this;cases this
        have hkeep:∀ b,b<w'.heap.size→¬ OwnZ b→b≠l→w''.heap[b]?=w'.heap[b]?:=by
         intro b hb' hn1 hn2
         refine (h2 b fun hm=>?_).trans (hfr5.2 b hb' fun hm=>hm.elim hn1 hn2)
         obtain ⟨d,hd,rfl⟩:=List.mem_map.1 hm
         obtain ⟨D,rfl,_,_,k4⟩:=hrel5.defs d hd
         have k4:w'.heap.size≤D:=k4
         have hb':D<w'.heap.size:=hb'
         omega
        have hsz:w'.heap.size≤w''.heap.size:=by rw [h1];exact hfr5.1
        have hpk:∀ q∈Dl.map (fun D=>(D,Obj.deferred (some [])))++K.pins,w''.heap[q.1]?=some q.2∧mach q.2=true:=by
         intro q hq'
         obtain ⟨k1,k2⟩:=hrel.pins q (by show _∈pins rc;rw [hpinsE];exact List.mem_cons_of_mem _ hq')
         refine ⟨(hkeep q.1 (Array.getElem?_eq_some_iff.1 k1).1 ?_ (hpl q hq')).trans k1,k2⟩
         rintro ⟨o,ob,g1,g2,g3⟩
         exact obj_not_loop hrel g1 g3 k1 k2
        refine .inr (.inr ⟨ch,rfl,.inl ⟨hyl,hq,fun _=>⟨none,.slice none 0 0,[]⟩,?_⟩,⟨hsz,fun b hb hn=>hkeep b hb (fun h=>hn (.inl (.inr h))) (fun h=>hn (.inr h)),hio.1.trans hfr5.io.1,hio.2.trans hfr5.io.2⟩⟩)
        refine ⟨?_,fun b hb'=>Nat.lt_of_lt_of_le (hrel.mg b (.inl (.inl (by rw [hM₀ hyl];exact hb')))) hsz,fun _ _ _ h=>(by cases h),fun _ _ h=>(by cases h),fun _ _ _ _ _ h=>(by cases h),fun _ _ _ h=>(by cases h),fun t=>⟨fun _=>trivial,fun hh=>absurd (fun x hx=>by cases hx) hh⟩,h.size,?_,hdnd,fun hh=>absurd hh hJn,?_,hJt hyl _ _ _ _,h.fix,fun _ _ _=>.inl rfl,fun _ _ h=>by cases h⟩
        ·refine ⟨Nat.le_trans hrel.frame.1 hsz,fun b hb' hn'=>?_,hio.1.trans (hfr5.io.1.trans hrel.frame.io.1),hio.2.trans (hfr5.io.2.trans hrel.frame.io.2)⟩
         refine (hkeep b (Nat.lt_of_lt_of_le hb' hrel.frame.1) ?_ ?_).trans (hrel.frame.2 b hb' hn')
         ·rintro ⟨o,ob,k1,k2,k3⟩
          rcases hrel.rng o ob b k1 k2 k3 with k4 | k4
          ·have hb':b<K.w0.heap.size:=hb'
           have k4:K.w0.heap.size≤b:=k4
           omega
          ·exact hn' (K.mlf b k4)
         ·have hb':b<K.w0.heap.size:=hb'
          have h9:K.w0.heap.size≤w.heap.size:=h.frame.1
          omega
        ·intro d hd
         obtain ⟨D,hDm,rfl⟩:=hD1 d hd
         exact ⟨D,rfl,(hpk (D,.deferred (some [])) (List.mem_append.2 (.inl (List.mem_map.2 ⟨D,hDm,rfl⟩)))).1,(hD2 D hDm).2⟩
        ·intro q hq'
         exact hpk q (List.mem_append.2 (.inr hq'))
       have hfx:Fr cx (rangeDs ps x y) (putPs two elt (hd z) ps e) s':=(hfr1.trans hfr2).mono fun t ht=>by
        rcases List.mem_append.1 ht with ht | ht
        ·exact hds1 t ht
        ·exact hds2 t ht
       have henvG:∀ s',Fr cx (rangeDs ps x y) (putPs two elt (hd z) ps e) s'→keptOk cx (rangeDs ps x y) (hd z) s'=true→∀ t,t∉rangeDs ps x y→t<cx.nt→(s.env t).v.withinH (an.objs++an.keep)=true→isUn (s.env t).v=false→s'.env t=s.env t:=by
        intro s' hfx hk t ht1 ht2 ht3 ht4
        have hb1:memN t (rangeDs ps x y)=false:=by
         cases hb':memN t (rangeDs ps x y) with
         | false=>rfl
         | true=>exact absurd (memN_iff.1 hb') ht1
        have ez:(hd z).env t=s.env t:=by
         rw [hhd]
         simp only
         rw [spread_fr (ds:=[]) (fun y hy=>by cases hy) t (by simp)]
         simp only [headBase]
         rw [hb1,ht3,Nat.ble_eq_true_of_le ht2];rfl
        rcases hfx t ht1 with e5 | e5 | ⟨d₀,e5,e6⟩
        rotate_right
        ·simp only [keptOk,List.all_eq_true,List.mem_range] at hk
         have:=hk t ht2
         have b2:memN t ((rangeDs ps x y).filterMap cx.ali)=true:=memN_iff.2 (List.mem_filterMap.2 ⟨d₀,e5,e6⟩)
         rw [hb1,b2,ez,ht4] at this
         simp at this
        ·rw [e5,putPs_fr (fun hp=>ht1 (List.mem_append.2 (.inl hp))),ez]
        ·simp only [keptOk,List.all_eq_true,List.mem_range] at hk
         have:=hk t ht2
         rw [hb1,ez,e5,ht4] at this
         cases this
       have henv0:=henvG s' hfx
       have back:∀ (S:ASt) (β4:Nat→Loc),NoG S→(∀ t∈rangeDs ps x y,S.env t=⟨[],.un⟩)→RelB ((KB { rc with state:=.busy }).mg M'') S a' w3 β4→∀ rc',∃ M2:Nat→Prop,Core rc' S β4 G M2 (w3.putObj l (.loop rc'))∧Trx Fs w' M2 (w3.putObj l (.loop rc')):=by
        intro S β4 hngS hunS hr4 rc'
        have hlp3:w3.heap[l]?=some (.loop { rc with state:=.busy }):=(hr4.pins (l,.loop { rc with state:=.busy }) (by show _∈pins _;rw [hpinsE];exact List.mem_cons_self)).1
        have hl3:l<w3.heap.size:=(Array.getElem?_eq_some_iff.1 hlp3).1
        obtain ⟨M₁,eM,eM2,hJ3,hold,hsd⟩:∃ M₁:Nat→Prop,M''=(fun b=>(M₁ b∨G b)∨b=l)∧(cx.yl=none→M₁=M)∧K.J (ghOf (S.obs K.gid)) (fun b=>Own S β4 b∨(G b∨b=l)) M₁ w3∧(∀ b,b<w'.heap.size→M₁ b→M₀ b)∧(∀ b,(G b∨b=l)→¬ M₁ b∧K.w0.heap.size≤b∧b<w3.heap.size):=by
         cases hyl:cx.yl with
         | none=>exact ⟨M₀,hMM hyl,fun _=>hM₀ hyl,hJt hyl _ _ _ _,fun _ _ h=>h,fun b hb=>⟨(hside b hb).1,(hside b hb).2.1,Nat.lt_of_lt_of_le (hside b hb).2.2 hr4.frame.1⟩⟩
         | some yy =>
          have hj0:JK cx.yl K G l w' M₀ Fs (ghOf (S.obs K.gid)) (Own S β4) M'' w3:=hr4.gh
          rw [hyl] at hj0
          obtain ⟨M₁,k1,k2,k3,k4,_⟩:=hj0
          exact ⟨M₁,k1,fun e=>(by cases e),k2,k3,k4⟩
        subst eM
        have hfrm:∀ b,b<w'.heap.size→¬ OwnZ b→b≠l→¬ Mz b→(w3.putObj l (.loop rc')).heap[b]?=w'.heap[b]?:=fun b hb' h1 h2 h3=>(World.putObj_heap_other h2).trans (hr4.frame.2 b hb' fun hm=>hm.elim (fun h=>h.elim h1 h2) h3)
        have hownK:∀ b,Own S β4 b→¬ M₁ b∧(K.w0.heap.size≤b∨K.Ml b):=by
         rintro b ⟨o,ob,k1,k2,k3⟩
         refine ⟨fun hm=>hr4.dis o ob b k1 k3 (.inl (.inl hm)),?_⟩
         rcases hr4.rng o ob b k1 k2 k3 with k4 | k4
         ·exact .inl (Nat.le_trans hw0' k4)
         ·exact hml b k4
        refine ⟨_,⟨M₁,⟨eM2,fun b hb hm=>hMold b hb (hold b (Nat.lt_of_lt_of_le hb hw1') hm),by rw [World.putObj_size];exact Nat.le_trans hw1' hr4.frame.1⟩,⟨hr4.re rfl rfl ?_ ?_ ?_ ?_ hr4.dis ?_ ?_ ?_ (fun d hd=>by cases hd) (pinMove hr4.pins) List.nodup_nil (fun h=>h.elim) trivial hfix0 rfl,hngS⟩,rfl,?_,?_⟩,⟨⟨?_,?_,hr4.frame.io⟩,?_⟩⟩
        ·rw [hr4.size];exact hr0.size
        ·intro t
         by_cases ht:t∈rangeDs ps x y
         ·exact .inl (hunS t ht)
         ·refine .inr ⟨?_,hngS t⟩
          refine (hr4.fix t (a.tmps.getD t undef) ?_).symm
          show fix t=_
          rw [hfixE]
          have hb1:memN t (rangeDs ps x y)=false:=by
           cases hb':memN t (rangeDs ps x y) with
           | false=>rfl
           | true=>exact absurd (memN_iff.1 hb') ht
          simp only [hb1,cond_false]
        ·refine ⟨by rw [World.putObj_size];exact Nat.le_trans hrel.frame.1 hr4.frame.1,fun b hb' hn'=>?_,hr4.frame.io.1.trans hrel.frame.io.1,hr4.frame.io.2.trans hrel.frame.io.2⟩
         refine (hfrm b (Nat.lt_of_lt_of_le hb' hrel.frame.1) ?_ ?_ ?_).trans (hrel.frame.2 b hb' hn')
         ·rintro ⟨o,ob,k1,k2,k3⟩
          rcases hrel.rng o ob b k1 k2 k3 with k4 | k4
          ·have hb':b<K.w0.heap.size:=hb'
           have k4:K.w0.heap.size≤b:=k4
           omega
          ·exact hn' (K.mlf b k4)
         ·have hb':b<K.w0.heap.size:=hb'
          have h9:K.w0.heap.size≤w.heap.size:=h.frame.1
          omega
         ·rintro ⟨z1,z2,z3⟩
          obtain ⟨yy,_,hyf⟩:=hJy z1
          exact hn' (hyf.mf _ _ _ _ hJc b hb' z2 z3)
        ·intro b hb';rw [World.putObj_size];exact hr4.mg b hb'
        ·exact ⟨⟨by rw [World.putObj_size];exact Nat.le_refl _,fun b _ hn' hmm=>World.putObj_heap_other fun e=>by rw [e] at hmm;have:=hmm _ hlp3;cases this⟩,fun b _ hm=>hm⟩
        ·intro o ob b ho hb'
         exact World.putObj_heap_other (notl hr4 hlp3 o ob b ho hb')
        ·intro o ob b ho hf' hb'
         rcases hr4.rng o ob b ho hf' hb' with k4 | ⟨o2,ob2,k1,k2,k3⟩
         ·exact .inl (Nat.le_trans hrel.frame.1 k4)
         ·exact hrel.rng o2 ob2 b k1 k2 k3
        ·refine K.Jst _ _ _ _ _ _ hJ3 (Trx.d ⟨⟨by rw [World.putObj_size];exact Nat.le_refl _,fun b _ hn'=>World.putObj_heap_other fun e=>hn' (.inr (.inr e)),rfl,rfl⟩,fun _ _ h=>h⟩) ?_ ?_
         ·rintro b (hb | hb)
          ·exact hownK b hb
          ·exact ⟨(hsd b hb).1,.inl (hsd b hb).2.1⟩
         ·rintro b (⟨o,ob,k1,k2,k3⟩ | hb)
          ·rw [World.putObj_size];exact hr4.blk_lt k1 k3
          ·rw [World.putObj_size];exact (hsd b hb).2.2
        ·intro b hb
         rw [World.putObj_size];exact hsd b hb
        ·rw [World.putObj_size];exact hr4.frame.1
        ·intro b hb' hn'
         exact hfrm b hb' (fun ho=>hn' (.inl (.inr ho))) (fun e=>hn' (.inr e)) (fun hz=>hn' (.inl (.inl hz.2.1)))
        ·intro b hb' hm
         rcases hm with (hm | ⟨o,ob,k1,k2,k3⟩) | hm
         ·exact .inl (.inl (hold b hb' hm))
         ·rcases hr4.rng o ob b k1 k2 k3 with k4 | k4
          ·have k4:w'.heap.size≤b:=k4
           omega
          ·exact .inl (.inr k4)
         ·exact .inr hm
       have hlp3:w3.heap[l]?=some (.loop { rc with state:=.busy }):=(hrel5.pins (l,.loop { rc with state:=.busy }) (by show _∈pins _;rw [hpinsE];exact List.mem_cons_self)).1
       have hend:=fun jump=>run_endRound (P:=K.P) jump hlp3
       cases ex with
       | normal =>
        simp only at hq
        obtain ⟨β5',hrel5'⟩:=canon_rel (ann:=an) ((hfitB _).mg M'') ⟨_,hrel5⟩
        have hn5':NoG (canon cx s' an):=noG_env (canon_env _) hn5
        have henv0':=henvG (canon cx s' an) fun t ht=>by
         rcases canon_env (cx:=cx) (an:=an) s' t with e | e
         ·rw [e];exact hfx t ht
         ·exact .inr (.inl e)
        clear henv0 hrel5 hn5
        revert hq hrel5' hn5' henv0'
        generalize canon cx s' an=s'
        intro hq hrel5 hn5 henv0
        split at hq
        ·rename_i x' lps hcol hsame
         cases hcc:(entryOk s' an&&keptOk cx (rangeDs ps x y) (hd z) s') with
         | false=>rw [hcc] at hq;exact hq.elim
         | true =>
          rw [hcc] at hq
          simp only [Bool.and_eq_true] at hcc
          obtain ⟨hall,hq⟩:=conj_out hq
          obtain ⟨β4,hr4,_⟩:=loop_head (K:=(KB { rc with state:=.busy }).mg M'') (nt:=cx.nt) (ds:=rangeDs ps x y) (s₀:=s) hcx ((hfitB _).mg M'') hrel5 hn5 hn c1' hcc.1 c3 hm (by rw [hsl];exact hcol) h.posne (fun o ho ob hob=>sameObs_eq hsame hall o ho ob hob) (henv0 hcc.2)
          rw [ehd'] at hr4
          obtain ⟨M2,k1,k2⟩:=back (hd x') β4 (hnog x') (hdun x') hr4 rc
          have er:({ rc with state:=LoopState.ready,pending:=none }:Loop)=rc:=by rw [hrc]
          have hend0:(Instr.endRound l none).run K.P w3=.ok (.bool true) (w3.putObj l (.loop rc)):=by
           have:=hend none
           simp only [Option.isNone_none,if_true] at this
           rw [er] at this;exact this
          have hval2:(F:Seq elt.D).val=(p++[e])++q:=by rw [hval,List.append_assoc];rfl
          exact ⟨_,_,hend0,.inl ⟨rfl,M2,⟨x',β4,q,hval2,hq,k1⟩,k2⟩⟩
        ·exact hq.elim
       | ret =>
        obtain ⟨S,β4,hG4,hng4,hun4,hr4⟩:=exit_head (K:=(KB { rc with state:=.busy }).mg M'') hcx ((hfitB _).mg M'') hrel5 hn5 hn hq h.posne henv0
        obtain ⟨M2,k1,k2⟩:=back S β4 hng4 hun4 hr4 { rc with state:=.done,pending:=some .ret }
        exact ⟨_,_,hend (some .ret),.inr (.inl ⟨rfl,M2,⟨S,β4,.ret,.inl ⟨rfl,hG4⟩,k1⟩,k2⟩)⟩
       | exit i =>
        obtain ⟨S,β4,hG4,hng4,hun4,hr4⟩:=exit_head (K:=(KB { rc with state:=.busy }).mg M'') hcx ((hfitB _).mg M'') hrel5 hn5 hn hq h.posne henv0
        obtain ⟨M2,k1,k2⟩:=back S β4 hng4 hun4 hr4 { rc with state:=.done,pending:=some (.exit i) }
        exact ⟨_,_,hend (some (.exit i)),.inr (.inl ⟨rfl,M2,⟨S,β4,.exit i,.inr ⟨i,rfl,hG4⟩,k1⟩,k2⟩)⟩
       | _=>exact hq.elim
      | _=>exact hq.elim
     have hleave:∀ {rc' S β Mo w5},Core rc' S β (fun _=>False) Mo w5→rc'.state≠.busy→(Instr.endLoop l).run K.P w5=.ok rc'.pending (w5.putObj l (.loop { rc' with state:=.exhausted }))∧∃ M₀:Nat→Prop,(cx.yl=none→M₀=M)∧RelB (K.mg M₀) S { a with defers:=mark++a.defers } (w5.putObj l (.loop { rc' with state:=.exhausted })) β:=by
      rintro rc' S β Mo w5 ⟨M₀,⟨hM₀,hMold,_⟩,⟨hrel,hngS⟩,rfl,hJc,hside⟩ hb
      have hlp:w5.heap[l]?=some (.loop rc'):=(hrel.pins (l,.loop rc') (by show _∈pins rc';rw [hpinsE];exact List.mem_cons_self)).1
      refine ⟨run_endLoop hlp hb,M₀,hM₀,hrel.re rfl rfl rfl (fun t=>.inr ⟨rfl,hngS t⟩) ?_ ?_ ?_ ?_ ?_ hrel.rng ?_ ?_ hdnd (fun h=>absurd h hJn) ?_ h.fix rfl⟩
      ·refine ⟨by rw [World.putObj_size];exact hrel.frame.1,fun b hb' hn'=>(World.putObj_heap_other fun e=>?_).trans (hrel.frame.2 b hb' hn'),hrel.frame.io⟩
       have hb':b<K.w0.heap.size:=hb'
       have h9:K.w0.heap.size≤w.heap.size:=h.frame.1
       omega
      ·intro b hb';rw [World.putObj_size];exact hrel.mg b (.inl (.inl hb'))
      ·intro o ob b ho hb' hM
       exact hrel.dis o ob b ho hb' (.inl (.inl hM))
      ·refine ⟨((ext_putObj w5 l _).mono fun b _ e=>.inl (.inr e)).loose,fun b _ hm=>?_⟩
       rcases hm with hm | hm
       ·exact .inl (.inl (.inl hm))
       ·exact .inr hm
      ·intro o ob b ho hb'
       refine World.putObj_heap_other fun e=>?_
       subst e
       exact obj_not_loop hrel ho hb' hlp rfl
      ·intro d hd
       obtain ⟨D,hDm,rfl⟩:=hD1 d hd
       refine ⟨D,rfl,?_,fun hm=>(hD2 D hDm).2.1 (hMold D (Array.getElem?_eq_some_iff.1 (hD2 D hDm).1).1 hm),(hD2 D hDm).2.2⟩
       have hp:=hrel.pins (D,.deferred (some [])) (by show _∈pins rc';rw [hpinsE];exact List.mem_cons_of_mem _ (List.mem_append.2 (.inl (List.mem_map.2 ⟨D,hDm,rfl⟩))))
       exact (World.putObj_heap_other (hpl _ (List.mem_append.2 (.inl (List.mem_map.2 ⟨D,hDm,rfl⟩))))).trans hp.1
      ·intro q hq
       obtain ⟨k1,k2⟩:=hrel.pins q (by show _∈pins rc';rw [hpinsE];exact List.mem_cons_of_mem _ (List.mem_append.2 (.inr hq)))
       exact ⟨(World.putObj_heap_other (hpl q (List.mem_append.2 (.inr hq)))).trans k1,k2⟩
      ·refine K.Jst _ _ _ _ _ _ hJc (Trx.d ⟨⟨by rw [World.putObj_size];exact Nat.le_refl _,fun b _ hn'=>World.putObj_heap_other fun e=>hn' (.inr (.inr e)),rfl,rfl⟩,fun _ _ h=>.inl h⟩) ?_ ?_
       ·rintro b (⟨o,ob,k1,k2,k3⟩ | hb)
        ·exact ⟨fun hm=>hrel.dis o ob b k1 k3 (.inl (.inl hm)),hrel.rng o ob b k1 k2 k3⟩
        ·exact ⟨(hside b hb).1,.inl (hside b hb).2.1⟩
       ·rintro b ⟨o,ob,k1,k2,k3⟩
        rw [World.putObj_size];exact hrel.blk_lt k1 k3
     refine ⟨l,mark,w1,{ target:=.fn (.func f) caps,args:=#[.func (.yield l) #[] #[]] },w1,f,#[.func (.yield l) #[] #[]]++caps,w1,hent,?_,?_,?_,?_,?_⟩
     rotate_left
     ·intro f' hf'
      simp only [Target.leads,Option.some.injEq] at hf'
      subst hf'
      exact hcalls.1
     rotate_left
     ·intro h;exact absurd h (by simp [FF])
     ·have hcin:=callsIn_FF (r:=r) (n:=n - 1) hcalls
      refine hcin.mono ?_
      rintro r5 w5 (⟨⟨v5,rfl⟩,hJ5⟩ | ⟨ch5,rfl,⟨hyl,hq5,β5,hr5⟩ | ⟨hyl,hj5,hd5⟩⟩)
      rotate_left
      ·exact hp M (fun _=>rfl) _ _ _ _ _ hq5 hr5 (fun _=>rfl)
      ·refine hj ch5 _ w5 hj5 (fun d hd=>?_) hdnd
       obtain ⟨D,hDm,rfl⟩:=hD1 d hd
       exact ⟨D,rfl,hd5 D hDm,(hD2 D hDm).2.2⟩
      rcases hJ5 with ⟨Mo,z,βz,q,hval,hI,hcore⟩ | ⟨p5,Mo,z,βz,jump,hj,hcore⟩
      ·have hq0:q=[]:=by
        have:=congrArg List.length hval
        rw [List.length_append] at this
        exact List.eq_nil_of_length_eq_zero (by omega)
       subst hq0
       have hng:NoG (hd z):=hnog z
       obtain ⟨k1,M₀,kM,k2⟩:=hleave hcore (by rw [hrc];exact fun e=>by cases e)
       have ep:rc.pending=none:=by rw [hrc]
       refine ⟨none,_,k1.trans (congrArg (fun p=>Result.ok p _) ep),?_⟩
       exact hp M₀ kM _ _ _ _ _ (i2 z hI) k2 (hnog z)
      ·have hngz:NoG z:=by obtain ⟨_,_,⟨_,k⟩,_⟩:=hcore;exact k
       obtain ⟨k1,M₀,kM,k2⟩:=hleave hcore (fun e=>by cases e)
       refine ⟨_,_,k1,?_⟩
       rcases hj with ⟨rfl,hQ⟩ | ⟨i,rfl,hQ⟩
       ·exact wpIn_ret (hp M₀ kM _ _ _ _ _ hQ k2 hngz)
       ·exact wpIn_exit (hp M₀ kM _ _ _ _ _ hQ k2 hngz)
     ·simp only [resolve,rangeCall,Deferred.ofValue,egv,Sem.run_pure]
      simp [Act.eval]
     ·simp only [invoke]
      exact hentf _ _
  ·exact hv.elim
 ·exact hv.elim
end
end Go.Sx
