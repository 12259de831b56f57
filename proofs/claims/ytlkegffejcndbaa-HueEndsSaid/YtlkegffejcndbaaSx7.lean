/-
  The symbolic layer, seventh part: closures as data; data made solid; the step that an operation takes.
-/
import Derived.Test.YtlkegffejcndbaaSx6
set_option linter.all false
namespace Go.Sx
variable {P : Program}

theorem VRep.sub {t : Ty} {w : World} {M M' : Nat → Prop} {v : Value} {x : t.D} (h : VRep P t w M v x) (hm : ∀ b, b < w.heap.size → M' b → M b) : VRep P t w M' v x :=
  h.tr ⟨.refl _ _, hm⟩

theorem Rep.top {t : Ty} (hf : t.flat = true) {w : World} {M : Nat → Prop} {v : Value} {x : t.D} (h : VRep P t w M v x) : ∃ cs, Rep P t w (fun _ => True) cs x ∧ v = pack t cs :=
  let ⟨cs, h1, h2⟩ := h; ⟨cs, h1.flat hf, h2⟩

/-- A function by its contract, at what it has captured, is a function that is data. -/
theorem f1u_rep {cx : Cx} (hcx : CxOk P cx) {f : Nat} {k : Con} (hk : cx.con f = some k) {a r : Ty} (hr : r.flat = true) {w : World} {M : Nat → Prop} {caps : List Value} {F : Fun a.D r.D}
    (hF : ∀ w' N v y, VRep P a w' N v y → Tr M w N w' → F.pre y → ∃ x : Ds k.args, k.pre x ∧ ARep P w' N k.args (v :: caps) x ∧ ∀ w'' N' z, RRep P w'' N' k.res z (k.val x) → VRep P r w'' N' z (F.val y)) :
    VRep P (.f1 a r) w M (.func (.func f) #[] caps.toArray) F := by
  refine ⟨_, ⟨_, rfl, .inr ⟨_, _, _, rfl⟩, ?_⟩, rfl⟩
  intro w' N u y hE hu hpre
  refine ⟨f, caps.toArray, rfl, (hcx.con f k hk).1, ?_⟩
  have hu' : VRep P a w' (fun b => (M b ∧ N b) ∧ b < w'.heap.size) u y := VRep.sub (M := N) hu fun b _ h => h.1.2
  obtain ⟨x, hx, hA, hV⟩ := hF w' (fun b => (M b ∧ N b) ∧ b < w'.heap.size) u y hu' ⟨hE, fun b _ h => h.1.1⟩ hpre
  have := (hcx.con f k hk).2 w' _ _ x (fun b h => h.2) hA hx
  have e : (#[u] ++ caps.toArray) = (u :: caps).toArray := by simp
  rw [e]
  refine this.mono ?_
  rintro e w'' ⟨v, rfl, h1, h2⟩
  obtain ⟨cs, h3, h4⟩ := Rep.top hr (hV w'' _ v h2)
  exact ⟨v, cs, rfl, h1, h3, h4⟩
theorem f2u_rep {cx : Cx} (hcx : CxOk P cx) {f : Nat} {k : Con} (hk : cx.con f = some k) {a b r : Ty} (hr : r.flat = true) {w : World} {M : Nat → Prop} {caps : List Value} {F : Fun (a.D × b.D) r.D}
    (hF : ∀ w' N v₁ v₂ y₁ y₂, VRep P a w' N v₁ y₁ → VRep P b w' N v₂ y₂ → Tr M w N w' → F.pre (y₁, y₂) → ∃ x : Ds k.args, k.pre x ∧ ARep P w' N k.args (v₁ :: v₂ :: caps) x ∧ ∀ w'' N' z, RRep P w'' N' k.res z (k.val x) → VRep P r w'' N' z (F.val (y₁, y₂))) :
    VRep P (.f2 a b r) w M (.func (.func f) #[] caps.toArray) F := by
  refine ⟨_, ⟨_, rfl, .inr ⟨_, _, _, rfl⟩, ?_⟩, rfl⟩
  intro w' N u₁ u₂ y₁ y₂ hE hu₁ hu₂ hpre
  refine ⟨f, caps.toArray, rfl, (hcx.con f k hk).1, ?_⟩
  have hu₁' : VRep P a w' (fun b => (M b ∧ N b) ∧ b < w'.heap.size) u₁ y₁ := VRep.sub (M := N) hu₁ fun b _ h => h.1.2
  have hu₂' : VRep P b w' (fun b => (M b ∧ N b) ∧ b < w'.heap.size) u₂ y₂ := VRep.sub (M := N) hu₂ fun b _ h => h.1.2
  obtain ⟨x, hx, hA, hV⟩ := hF w' (fun b => (M b ∧ N b) ∧ b < w'.heap.size) u₁ u₂ y₁ y₂ hu₁' hu₂' ⟨hE, fun b _ h => h.1.1⟩ hpre
  have := (hcx.con f k hk).2 w' _ _ x (fun b h => h.2) hA hx
  have e : (#[u₁, u₂] ++ caps.toArray) = (u₁ :: u₂ :: caps).toArray := by simp
  rw [e]
  refine this.mono ?_
  rintro e w'' ⟨v, rfl, h1, h2⟩
  obtain ⟨cs, h3, h4⟩ := Rep.top hr (hV w'' _ v h2)
  exact ⟨v, cs, rfl, h1, h3, h4⟩

section
variable {K : Ctx} {s : ASt} {a : Act} {w : World} {β : Nat → Loc} {cx : Cx}

theorem Under.mem {ids : List Nat} {M' : Nat → Prop} {l : List Nat} (h : Under s β K.Mg ids M') (hl : ∀ o ∈ l, o ∈ ids) : Under s β K.Mg l M' := ⟨h.1, fun o ho => h.2 o (hl o ho)⟩

theorem dvs_rep (h : RelB K s a w β) {M' : Nat → Prop} : ∀ {l : List SV} {vs : List Dv} {us : List Value}, All2 (SVRep K.P s β w (Mset K.Mg s β)) l us → All2 (fun x y => SV.dv s x = some y) l vs → Under s β K.Mg (l.flatMap (SV.open? s)) M' →
    All2 (fun (u : Value) (d : Dv) => VRep K.P d.t w M' u d.x) us vs
  | [], [], [], _, _, _ => trivial
  | x :: l, v :: vs, u :: us, h1, h2, hM =>
    ⟨SV.dv_rep h h1.1 h2.1 (hM.mem fun o ho => by simp [List.flatMap_cons, ho]), dvs_rep h h1.2 h2.2 (hM.mem fun o ho => by
      simp only [List.flatMap_cons, List.mem_append]; exact .inr ho)⟩
  | [], _ :: _, _, _, h, _ => h.elim
  | _ :: _, [], _, _, h, _ => h.elim
  | [], _, _ :: _, h, _, _ => h.elim
  | _ :: _, _, [], h, _, _ => h.elim

theorem ARep.cons {w : World} {M : Nat → Prop} {a b : Ty} {r : List Ty} {v : Value} {vs : List Value} {x : a.D} {y : Ds (b :: r)} (h1 : VRep P a w M v x) (h2 : ARep P w M (b :: r) vs y) : ARep P w M (a :: b :: r) (v :: vs) (x, y) :=
  ⟨v, vs, rfl, h1, h2⟩

theorem cloDv_rep (hcx : CxOk K.P cx) (h : RelB K s a w β) {f : Nat} {c : List SV} {v : Dv} {u : Value} (hx : AVRep K.P s β w (Mset K.Mg s β) (.clo f c) u) (hd : cloDv cx s f c = some v) {M' : Nat → Prop} (hM : Under s β K.Mg (c.flatMap (SV.open? s)) M') : VRep K.P v.t w M' u v.x := by
  obtain ⟨us, rfl, hus⟩ := hx
  unfold cloDv at hd
  split at hd
  · rename_i a₁ r pre val hk hc
    cases hr : r.flat with
    | false => rw [hr] at hd; cases hd
    | true =>
      rw [hr] at hd; cases hd
      have hl := optAll_all2 hc
      cases c with
      | cons _ _ => exact hl.elim
      | nil =>
        cases us with
        | cons _ _ => exact hus.elim
        | nil =>
          refine f1u_rep hcx hk hr ?_
          intro w' N v' y hv' _ hp
          exact ⟨y, hp, ⟨v', rfl, hv'⟩, fun _ _ _ hz => hz⟩
  · rename_i a₁ b l r pre val caps hk hc
    cases hr : r.flat with
    | false => rw [hr] at hd; cases hd
    | true =>
      rw [hr] at hd
      simp only [cond_true] at hd
      have hcaps := dvs_rep h hus (optAll_all2 hc) hM
      split at hd
      · rename_i y hy
        cases hd
        have hA := mkDs_rep hcaps hy
        refine f1u_rep hcx hk hr ?_
        intro w' N v' y' hv' ht hp
        exact ⟨(y', y), hp, ARep.cons hv' (hA.tr ht), fun _ _ _ hz => hz⟩
      · unfold cloDv2 at hd
        split at hd
        · cases hd
          cases us with
          | cons _ _ => exact hcaps.elim
          | nil =>
            refine f2u_rep hcx hk hr ?_
            intro w' N v₁ v₂ y₁ y₂ h1 h2 ht hp
            exact ⟨(y₁, y₂), hp, ARep.cons h1 ⟨v₂, rfl, h2⟩, fun _ _ _ hz => hz⟩
        · cases hd
        · split at hd
          · rename_i y hy
            cases hd
            have hA := mkDs_rep hcaps hy
            refine f2u_rep hcx hk hr ?_
            intro w' N v₁ v₂ y₁ y₂ h1 h2 ht hp
            exact ⟨(y₁, y₂, y), hp, ARep.cons h1 (ARep.cons h2 (hA.tr ht)), fun _ _ _ hz => hz⟩
          · cases hd
  · cases hd

theorem iconDv_rep (hcx : CxOk K.P cx) (h : RelB K s a w β) {f : Nat} {k : ICon} (hk : cx.icon f = some k) {c : List SV} {v : Dv} {u : Value} (hx : AVRep K.P s β w (Mset K.Mg s β) (.clo f c) u) (hd : iconDv s k c = some v) {M' : Nat → Prop} (hM : Under s β K.Mg (c.flatMap (SV.open? s)) M') : VRep K.P v.t w M' u v.x := by
  obtain ⟨us, rfl, hus⟩ := hx
  unfold iconDv at hd
  split at hd
  · rename_i vs hvs
    split at hd
    · rename_i x hx
      cases hd
      have hA := mkDs_rep (dvs_rep h hus (optAll_all2 hvs) hM) hx
      obtain ⟨he, hh⟩ := hcx.icon f k hk
      refine ⟨_, ⟨_, rfl, .inr ⟨_, _, _, rfl⟩, fun w' M'' ht hlt hp => ⟨f, us.toArray, rfl, he, ?_⟩⟩, rfl⟩
      exact hh w' M'' us x hlt (hA.tr ht) hp
    · cases hd
  · cases hd
theorem AV.dv_rep (hcx : CxOk K.P cx) (h : RelB K s a w β) {x : AV} {v : Dv} {u : Value} (hx : AVRep K.P s β w (Mset K.Mg s β) x u) (hd : x.dv cx s = some v) {M' : Nat → Prop} (hM : Under s β K.Mg (x.open? s) M') : VRep K.P v.t w M' u v.x := by
  cases x with
  | un => cases hd
  | s x => exact SV.dv_rep h hx hd hM
  | yl _ => cases hd
  | clo f c =>
    simp only [AV.dv] at hd
    split at hd
    · rename_i k hk; exact iconDv_rep hcx h hk hx hd hM
    · exact cloDv_rep hcx h hx hd hM
  | tup l => cases hd

theorem avs_rep (hcx : CxOk K.P cx) (h : RelB K s a w β) {M' : Nat → Prop} : ∀ {l : List AV} {vs : List Dv} {us : List Value}, All2 (AVRep K.P s β w (Mset K.Mg s β)) l us → All2 (fun x y => AV.dv cx s x = some y) l vs → Under s β K.Mg (l.flatMap (AV.open? s)) M' →
    All2 (fun (u : Value) (d : Dv) => VRep K.P d.t w M' u d.x) us vs
  | [], [], [], _, _, _ => trivial
  | x :: l, v :: vs, u :: us, h1, h2, hM =>
    ⟨AV.dv_rep hcx h h1.1 h2.1 (hM.mem fun o ho => by simp [List.flatMap_cons, ho]), avs_rep hcx h h1.2 h2.2 (hM.mem fun o ho => by
      simp only [List.flatMap_cons, List.mem_append]; exact .inr ho)⟩
  | [], _ :: _, _, _, h, _ => h.elim
  | _ :: _, [], _, _, h, _ => h.elim
  | [], _, _ :: _, h, _, _ => h.elim
  | _ :: _, _, [], h, _, _ => h.elim

theorem RelB.mset_lt (h : RelB K s a w β) {b : Nat} (hb : Mset K.Mg s β b) : b < w.heap.size := by
  rcases hb with hb | ⟨o, ob, h1, _, h3⟩
  · exact h.mg b hb
  · exact h.blk_lt h1 h3

/-! ### Freezing -/
theorem puts_map_cons {α : Type} (f : Nat → α) (k : Nat) (v : α) (r : List (Nat × α)) : puts f ((k, v) :: r) = put (puts f r) k v := rfl

def frO (s : ASt) (ids : List Nat) (o : Nat) : Option (Option Ob) := match s.obs o with
  | some (some ob) => if o ∈ ids then some (some (frOb ob)) else some (some ob)
  | r => r
theorem freeze_obs (s : ASt) : ∀ (ids : List Nat) (o : Nat), puts s.obs ((freeze s ids).map fun x => (x.1, some x.2)) o = frO s ids o
  | [], o => by
    simp only [freeze, List.map_nil, puts, frO, List.not_mem_nil, if_false]
    split <;> simp_all
  | i :: r, o => by
    have ih := freeze_obs s r o
    simp only [freeze]
    split
    · rename_i ob hob
      simp only [List.map_cons, puts_map_cons]
      by_cases hio : o = i
      · subst hio
        rw [put_same]
        simp [frO, hob]
      · rw [put_other _ _ hio, ih]
        simp [frO, hio]
    · rename_i hno
      rw [ih]
      by_cases hio : o = i
      · subst hio
        unfold frO
        split
        · rename_i ob hob; exact absurd hob (hno ob)
        · rfl
      · simp [frO, hio]

theorem like_frOb (ob : Ob) : Like ob (frOb ob) := by
  cases ob with
  | bx f t x => exact ⟨fun _ h => h, fun _ => rfl, rfl, rfl⟩
  | bv v => exact ⟨fun _ h => h, fun _ => rfl, rfl, rfl⟩
  | mm _ _ _ => exact ⟨fun _ h => h, fun _ => rfl, rfl, rfl⟩
  | gh _ _ => exact ⟨fun _ h => h, fun _ => rfl, rfl, rfl⟩
  | row f e t l => exact ⟨fun p h => by rcases p with _ | ⟨⟨⟩, _⟩ <;> exact h, fun p => by rcases p with _ | ⟨⟨⟩, _⟩ <;> rfl, rfl, rfl⟩
theorem obRep_frOb {s : ASt} {β : Nat → Loc} {w : World} {M : Nat → Prop} {L : Loc} {ob : Ob} (h : ObRep P s β w M L ob) : ObRep P s β w M L (frOb ob) := by
  cases ob <;> exact h

theorem gh_frO (ids : List Nat) (o : Nat) : ghOf (frO s ids o) = ghOf (s.obs o) := by
  unfold frO
  split
  · rename_i ob ho
    rw [ho]
    split
    · cases ob <;> rfl
    · rfl
  · rfl
theorem RelB.freeze (h : RelB K s a w β) (ids : List Nat) :
    RelB K { s with obs := puts s.obs ((Sx.freeze s ids).map fun x => (x.1, some x.2)) } a w β ∧
    Tr (Mset K.Mg s β) w (Mset K.Mg { s with obs := puts s.obs ((Sx.freeze s ids).map fun x => (x.1, some x.2)) } β) w ∧
    Compat s β { s with obs := puts s.obs ((Sx.freeze s ids).map fun x => (x.1, some x.2)) } β ∧
    (∀ o ∈ ids, ∀ b, (∀ ob, s.obs o = some (some ob) → canFz ob = true) → (∃ ob, s.obs o = some (some ob)) → (β o).blk = some b → ¬ Mset K.Mg { s with obs := puts s.obs ((Sx.freeze s ids).map fun x => (x.1, some x.2)) } β b) := by
  have hobs : ∀ o, ({ s with obs := puts s.obs ((Sx.freeze s ids).map fun x => (x.1, some x.2)) } : ASt).obs o = frO s ids o := freeze_obs s ids
  have hcc : Compat s β { s with obs := puts s.obs ((Sx.freeze s ids).map fun x => (x.1, some x.2)) } β := by
    refine ⟨fun o ho => by rw [hobs]; simp [frO, ho], fun o ob ho => .inr ?_⟩
    rw [hobs]
    by_cases hi : o ∈ ids
    · exact ⟨frOb ob, by simp [frO, ho, hi], rfl, like_frOb ob⟩
    · exact ⟨ob, by simp [frO, ho, hi], rfl, .refl _⟩
  have hlive : ∀ o ob, frO s ids o = some (some ob) → ∃ ob₀, s.obs o = some (some ob₀) ∧ (ob = ob₀ ∧ o ∉ ids ∨ ob = frOb ob₀ ∧ o ∈ ids) := by
    intro o ob ho
    unfold frO at ho
    split at ho
    · rename_i ob₀ h0
      split at ho
      · rename_i hi; exact ⟨ob₀, h0, .inr ⟨(Option.some.inj (Option.some.inj ho)).symm, hi⟩⟩
      · rename_i hi; exact ⟨ob₀, h0, .inl ⟨(Option.some.inj (Option.some.inj ho)).symm, hi⟩⟩
    · rename_i hn; exact absurd ho (hn ob)
  have hfz : ∀ ob, obFz (frOb ob) = false → obFz ob = false := by intro ob; cases ob <;> simp [frOb, obFz]
  obtain ⟨h1, h2⟩ := h.step hcc (.refl _ _)
    (by
      rintro b _ ⟨o, ob, ho, hf, hb⟩
      rw [hobs] at ho
      rcases hlive o ob ho with ⟨ob₀, h0, ⟨e, _⟩ | ⟨e, _⟩⟩
      · exact ⟨o, ob₀, h0, e ▸ hf, hb⟩
      · exact ⟨o, ob₀, h0, hfz ob₀ (e ▸ hf), hb⟩)
    (by
      intro o ob ho
      rw [hobs] at ho
      rcases hlive o ob ho with ⟨ob₀, h0, ⟨e, _⟩ | ⟨e, _⟩⟩
      · exact .inl ⟨e ▸ h0, rfl, fun _ _ => rfl⟩
      · exact .inr fun ht => e ▸ obRep_frOb ((h.ob o ob₀ h0).next hcc ht fun _ _ => rfl))
    (by
      intro o o' ob ob' b ho ho' hb hb'
      rw [hobs] at ho ho'
      obtain ⟨ob₀, h0, _⟩ := hlive o ob ho
      obtain ⟨ob₁, h1, _⟩ := hlive o' ob' ho'
      exact h.inj o o' _ _ b h0 h1 hb hb')
    (by
      intro o ob b ho hb
      rw [hobs] at ho
      obtain ⟨ob₀, h0, hcc'⟩ := hlive o ob ho
      refine .inr ⟨o, _, h0, ?_, hb⟩
      rcases hcc' with ⟨e, _⟩ | ⟨e, _⟩
      · exact fun hf => e ▸ hf
      · exact fun hf => hfz ob₀ (e ▸ hf)) rfl (by rw [hobs]; exact gh_frO _ _)
  refine ⟨h1, h2, hcc, ?_⟩
  intro o hi b hnb ⟨ob, ho⟩ hb
  refine h1.not_open (o := o) (ob := frOb ob) (by rw [hobs]; simp [frO, ho, hi]) ?_ hb
  have := hnb ob ho
  cases ob <;> simp_all [frOb, obFz, canFz]
end
end Go.Sx
