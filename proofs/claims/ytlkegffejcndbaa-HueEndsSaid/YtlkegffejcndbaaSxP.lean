/-
  The symbolic layer, part 25: from the entry, or a round's end, to a loop's head.
-/
import Derived.Test.YtlkegffejcndbaaSxO
set_option linter.all false
namespace Go.Sx
section
variable {K : Ctx} {cx : Cx} {s s' s₀ head : ASt} {a : Act} {w : World} {β β' : Nat → Loc}

/-- Objects of a state under other names: each live object of the one is a live object of the other. -/
structure Names (s : ASt) (β : Nat → Loc) (head : ASt) (β' : Nat → Loc) : Prop where
  live : ∀ o ob, head.obs o = some (some ob) → (isRow ob = true ∧ β' o = ⟨none, .slice none 0 0⟩ ∧ (∃ e t, ob = .row false e t []) ∨ ∃ o', s.obs o' = some (some ob) ∧ β' o = β o')
  inj : ∀ o₁ o₂ ob₁ ob₂ b, head.obs o₁ = some (some ob₁) → head.obs o₂ = some (some ob₂) → (β' o₁).blk = some b → (β' o₂).blk = some b → o₁ = o₂

theorem Names.tr (h : RelB K s a w β) (hN : Names s β head β') : Tr (Mset K.Mg s β) w (Mset K.Mg head β') w := by
  refine ⟨.refl _ _, fun b _ hb => hb.imp id ?_⟩
  rintro ⟨o, ob, h1, h2, h3⟩
  rcases hN.live o ob h1 with ⟨_, e1, _⟩ | ⟨o', e1, e2⟩
  · rw [e1] at h3; cases h3
  · exact ⟨o', ob, e1, h2, e2 ▸ h3⟩

theorem head_rel (h : RelB K s a w β) (hN : Names s β head β') (hbv : ∀ o v, head.obs o = some (some (.bv v)) → ∀ u, AVRep K.P s β w (Mset K.Mg s β) v u → AVRep K.P head β' w (Mset K.Mg head β') v u)
    (hgh : ghOf (head.obs K.gid) = ghOf (s.obs K.gid) ∨ ∀ g G M w, K.J g G M w) (henv : ∀ t, EntRep K.P head β' a w (Mset K.Mg head β') (head.env t) (a.tmps.getD t undef))
    (hpos : ∀ o b, K.pos o = some b → head.obs o = some none ∨ ∃ ob, head.obs o = some (some ob) ∧ isRow ob = false ∧ (β' o).blk = some b) : RelB K head a w β' := by
  have ht := hN.tr h
  have hown : ∀ b, Own head β' b → Own s β b := by
    rintro b ⟨o, ob, h1, h2, h3⟩
    rcases hN.live o ob h1 with ⟨_, e1, _⟩ | ⟨o', e1, e2⟩
    · rw [e1] at h3; cases h3
    · exact ⟨o', ob, e1, h2, e2 ▸ h3⟩
  refine ⟨h.frame, h.mg, ?_, ?_, hN.inj, ?_, henv, h.size, h.defs, h.dnd, h.nod, h.pins, ?_, h.fix, hpos⟩
  · intro o ob b ho hb
    rcases hN.live o ob ho with ⟨_, e1, _⟩ | ⟨o', e1, e2⟩
    · rw [e1] at hb; cases hb
    · exact h.dis o' ob b e1 (e2 ▸ hb)
  · intro o ob ho
    rcases hN.live o ob ho with ⟨_, e1, e, t, rfl⟩ | ⟨o', e1, e2⟩
    · rw [e1]
      exact ⟨by simp, rfl, [], trivial, by simp, .inl ⟨rfl, rfl⟩⟩
    · rw [e2]
      have := h.ob o' ob e1
      cases ob with
      | bx f t x =>
        obtain ⟨b, vs, e, h1, h2, h3⟩ := this
        exact ⟨b, vs, e, h1, h2, h3.tr ht⟩
      | row f e t l =>
        obtain ⟨h1, h2, vss, h3, h4⟩ := this
        exact ⟨h1, h2, vss, h3.mono fun _ _ h => h.tr ht, h4⟩
      | bv v =>
        obtain ⟨b, u, e, h1, h2, h3⟩ := this
        exact ⟨b, u, e, h1, h2, hbv o v ho u h3⟩
      | mm tk tv inv =>
        obtain ⟨b, es, ck, h1, h2, h3⟩ := this
        refine ⟨b, es, ck, h1, h2, fun e he => ?_⟩
        obtain ⟨x, y, g1, g2, g3⟩ := h3 e he
        exact ⟨x, y, g1.tr ht, g2.tr ht, g3⟩
      | gh t x => exact this
  · intro o ob b ho hf hb
    rcases hN.live o ob ho with ⟨_, e1, _⟩ | ⟨o', e1, e2⟩
    · rw [e1] at hb; cases hb
    · exact h.rng o' ob b e1 hf (e2 ▸ hb)
  · rcases hgh with hgh | hgh
    · rw [hgh]
      refine K.Jst _ _ _ _ _ _ h.gh ⟨Ext.refl _ _, fun b _ hb => hown b hb⟩ ?_ ?_
      · rintro b ⟨o, ob, h1, h2, h3⟩
        exact ⟨h.dis o ob b h1 h3, h.rng o ob b h1 h2 h3⟩
      · intro b hb
        obtain ⟨o, ob, h1, h2, h3⟩ := hown b hb
        exact h.blk_lt h1 h3
    · exact hgh _ _ _ _

theorem dropOb_ne {x : Option (Option Ob)} {ob : Ob} : dropOb x ≠ some (some ob) := by
  cases x with
  | none => intro h; cases h
  | some _ => intro h; cases h
/-- Where the head's objects lie. -/
def headLoc (s' : ASt) (sl : List (Nat × Bool)) (β : Nat → Loc) (o : Nat) : Loc :=
  if o ∈ hids sl then (match (s'.env (o - 100000)).v with | .s (.os o') => β o' | _ => ⟨none, .slice none 0 0⟩) else β o
theorem headLoc_hid {sl : List (Nat × Bool)} {t : Nat} (h : (t, true) ∈ sl) : headLoc s' sl β (hid t) = (match (s'.env t).v with | .s (.os o') => β o' | _ => ⟨none, .slice none 0 0⟩) := by
  have hm : hid t ∈ hids sl := List.mem_map.2 ⟨(t, true), List.mem_filter.2 ⟨h, rfl⟩, rfl⟩
  unfold headLoc
  rw [if_pos hm]
  simp only [hid, Nat.add_sub_cancel_left]
theorem headLoc_other {sl : List (Nat × Bool)} {o : Nat} (h : o ∉ hids sl) : headLoc s' sl β o = β o := by
  unfold headLoc; rw [if_neg h]

theorem nodup_flatMap_inj {α : Type} {f : α → List Nat} : ∀ {l : List α}, (l.flatMap f).Nodup → ∀ {x y : α} {o : Nat}, x ∈ l → y ∈ l → o ∈ f x → o ∈ f y → x = y
  | [], _, x, _, _, hx, _, _, _ => by cases hx
  | z :: l, h, x, y, o, hx, hy, h1, h2 => by
    rw [List.flatMap_cons, List.nodup_append] at h
    obtain ⟨_, hl, hd⟩ := h
    rcases List.mem_cons.1 hx with ex | hx' <;> rcases List.mem_cons.1 hy with ey | hy'
    · rw [ex, ey]
    · subst ex; exact absurd rfl (hd o h1 o (List.mem_flatMap.2 ⟨y, hy', h2⟩))
    · subst ey; exact absurd rfl (hd o h2 o (List.mem_flatMap.2 ⟨x, hx', h1⟩))
    · exact nodup_flatMap_inj hl hx' hy' h1 h2

theorem SV.keep_rep {L : List Nat} (hL : ∀ o ∈ L, ∃ ob, s'.obs o = some (some ob) ∧ head.obs o = some (some ob) ∧ β' o = β o) (ht : Tr (Mset K.Mg s' β) w (Mset K.Mg head β') w) {v : SV} {u : Value} (hw : v.within L = true)
    (h : SVRep K.P s' β w (Mset K.Mg s' β) v u) : SVRep K.P head β' w (Mset K.Mg head β') v u := by
  cases v with
  | d t x => exact VRep.tr h ht
  | nl e t => exact h
  | mp o =>
    obtain ⟨ob, h1, h2, h3⟩ := hL o (memN_iff.1 hw)
    simp only [SVRep, h1] at h
    simp only [SVRep, h2, h3]
    exact h
  | ptr o p =>
    obtain ⟨ob, h1, h2, h3⟩ := hL o (memN_iff.1 hw)
    simp only [SVRep, h1] at h
    simp only [SVRep, h2, h3]
    exact h
  | os o =>
    obtain ⟨ob, h1, h2, h3⟩ := hL o (memN_iff.1 hw)
    simp only [SVRep, h1] at h
    simp only [SVRep, h2, h3]
    exact h
theorem AV.keep_rep {L : List Nat} (hL : ∀ o ∈ L, ∃ ob, s'.obs o = some (some ob) ∧ head.obs o = some (some ob) ∧ β' o = β o) (ht : Tr (Mset K.Mg s' β) w (Mset K.Mg head β') w) {v : AV} {u : Value} (hw : v.within L = true)
    (h : AVRep K.P s' β w (Mset K.Mg s' β) v u) : AVRep K.P head β' w (Mset K.Mg head β') v u := by
  have key : ∀ {l : List SV} {us : List Value}, l.all (SV.within L) = true → All2 (SVRep K.P s' β w (Mset K.Mg s' β)) l us → All2 (SVRep K.P head β' w (Mset K.Mg head β')) l us := by
    intro l
    induction l with
    | nil => intro us _ h; cases us with
      | nil => trivial
      | cons _ _ => exact h.elim
    | cons v l ih =>
      intro us hl h
      cases us with
      | nil => exact h.elim
      | cons u us =>
        simp only [List.all_cons, Bool.and_eq_true] at hl
        exact ⟨SV.keep_rep hL ht hl.1 h.1, ih hl.2 h.2⟩
  cases v with
  | un => trivial
  | yl _ => exact h
  | s v => exact SV.keep_rep hL ht hw h
  | clo f c => obtain ⟨vs, rfl, h⟩ := h; exact ⟨vs, rfl, key hw h⟩
  | tup l => obtain ⟨vs, rfl, h⟩ := h; exact ⟨vs, rfl, key hw h⟩

theorem keepOk_live {ann : LoopAnn} (h : keepOk s ann = true) {o : Nat} (ho : o ∈ ann.keep) : ∃ ob, s.obs o = some (some ob) ∧ isGh ob = false ∧ ∀ v, ob = .bv v → v.within (ann.objs ++ ann.keep) = true := by
  simp only [keepOk, List.all_eq_true] at h
  have := h o ho
  split at this
  · rename_i v hv
    exact ⟨_, hv, rfl, fun v' e => by cases e; exact this⟩
  · cases this
  · rename_i ob h1 h2 h3
    refine ⟨ob, ‹_›, ?_, fun v e => absurd e (h1 v)⟩
    cases ob <;> first | rfl | exact absurd rfl (h2 _ _)
  · cases this

theorem RelB.posne (h : RelB K s a w β) : ∀ o b, K.pos o = some b → s.obs o ≠ none := by
  intro o b ho hn
  rcases h.pos o b ho with h1 | ⟨_, h1, _⟩ <;> rw [hn] at h1 <;> cases h1
theorem loop_head (hcx : CxOk K.P cx) (hf : Fit K cx) {nt : Nat} {ann : LoopAnn} {ds : List Nat} {hs : List Shp} {x : Shps hs} (h : RelB K s' a w β) (hn' : NoG s') (hn : NoG s₀) (hann : annOk cx.yl ann ds = true) (hent : entryOk s' ann = true) (hkok : keepOk s₀ ann = true)
    (hm : Match ann.slots ann.objs hs) (hc : collect cx s' ann.slots ann.objs hs = some x) (hps : ∀ o b, K.pos o = some b → s₀.obs o ≠ none)
    (hkeep : ∀ o ∈ ann.keep, ∀ ob, s₀.obs o = some (some ob) → s'.obs o = some (some ob))
    (henv : ∀ t, t ∉ ds → t < nt → (s₀.env t).v.within (ann.objs ++ ann.keep) = true → isUn (s₀.env t).v = false → s'.env t = s₀.env t) :
    ∃ β', RelB K (spread (headBase nt s₀ ann ds) ann.slots ann.objs hs x) a w β' ∧ Tr (Mset K.Mg s' β) w (Mset K.Mg (spread (headBase nt s₀ ann ds) ann.slots ann.objs hs x) β') w := by
  simp only [annOk, Bool.and_eq_true] at hann
  obtain ⟨hyl, hslots, hn1, hn2⟩ := hann
  have hn2 : (hids ann.slots ++ (ann.objs ++ ann.keep)).Nodup := nodup_of hn2
  have hn3 : (hids ann.slots ++ ann.objs).Nodup := by
    rw [← List.append_assoc] at hn2
    exact (List.nodup_append.1 hn2).1
  obtain ⟨f1, f2, f3, f4⟩ := head_fact (base := headBase nt s₀ ann ds) hm hc (nodup_of hn1) hn3
  generalize spread (headBase nt s₀ ann ds) ann.slots ann.objs hs x = head at f1 f2 f3 f4 ⊢
  simp only [entryOk, Bool.and_eq_true, List.all_eq_true, Bool.not_eq_true'] at hent
  obtain ⟨hd1, hd2⟩ := hent
  have hd1 := nodup_of hd1
  have hnh : ∀ o ∈ ann.objs ++ ann.keep, o ∉ hids ann.slots := fun o ho hh => (List.nodup_append.1 hn2).2.2 o hh o ho rfl
  have hno : ∀ o ∈ ann.keep, o ∉ ann.objs := fun o ho hh => by
    have := (List.nodup_append.1 hn2).2.1
    exact (List.nodup_append.1 this).2.2 o hh o ho rfl
  -- each live object of the head has a source
  have src : ∀ o ob, head.obs o = some (some ob) → ((isRow ob = true ∧ headLoc s' ann.slots β o = ⟨none, .slice none 0 0⟩ ∧ ∃ e t, ob = .row false e t []) ∨
      ∃ o', s'.obs o' = some (some ob) ∧ headLoc s' ann.slots β o = β o' ∧ ((∃ t, (t, true) ∈ ann.slots ∧ o = hid t ∧ o' ∈ slotId s' (t, true)) ∨ (o' = o ∧ o ∈ ann.objs ++ ann.keep))) := by
    intro o ob ho
    by_cases hh : o ∈ hids ann.slots
    · obtain ⟨t, ht, rfl⟩ := mem_hids hh
      rcases f1 _ ht with ⟨hf, _⟩ | ⟨_, e₀, e, l, k1, k2, k3⟩
      · cases hf
      · have k2 : head.obs (hid t) = _ := k2
        rw [k2] at ho; cases ho
        rcases k3 with ⟨e', k4, rfl⟩ | ⟨o', k4, k5⟩
        · left
          have k4 : (s'.env t).v = _ := k4
          exact ⟨rfl, by rw [headLoc_hid ht, k4], _, _, rfl⟩
        · right
          have k4 : (s'.env t).v = _ := k4
          exact ⟨o', k5, by rw [headLoc_hid ht, k4], .inl ⟨t, ht, rfl, by simp [slotId, k4]⟩⟩
    · by_cases hob : o ∈ ann.objs
      · obtain ⟨ob', k1, k2, k3, k4⟩ := f2 o hob
        rw [k1] at ho; cases ho
        exact .inr ⟨o, k2, headLoc_other hh, .inr ⟨rfl, List.mem_append.2 (.inl hob)⟩⟩
      · rw [f4 o hh hob] at ho
        simp only [headBase] at ho
        cases hk : memN o ann.keep with
        | false => rw [hk] at ho; exact absurd ho dropOb_ne
        | true =>
          rw [hk] at ho
          have ho : s₀.obs o = some (some ob) := ho
          have hk := memN_iff.1 hk
          exact .inr ⟨o, hkeep o hk ob ho, headLoc_other hh, .inr ⟨rfl, List.mem_append.2 (.inr hk)⟩⟩
  have hN : Names s' β head (headLoc s' ann.slots β) := by
    refine ⟨fun o ob ho => ?_, ?_⟩
    · rcases src o ob ho with h1 | ⟨o', h1, h2, _⟩
      · exact .inl h1
      · exact .inr ⟨o', h1, h2⟩
    · intro o₁ o₂ ob₁ ob₂ b h1 h2 h3 h4
      rcases src o₁ ob₁ h1 with ⟨_, e, _⟩ | ⟨p₁, k1, k2, k3⟩
      · rw [e] at h3; cases h3
      rcases src o₂ ob₂ h2 with ⟨_, e, _⟩ | ⟨p₂, q1, q2, q3⟩
      · rw [e] at h4; cases h4
      rw [k2] at h3; rw [q2] at h4
      have hp := h.inj p₁ p₂ _ _ b k1 q1 h3 h4
      subst hp
      have hap := List.nodup_append.1 hd1
      rcases k3 with ⟨t₁, t1, rfl, t2⟩ | ⟨e1, t2⟩ <;> rcases q3 with ⟨t₂, u1, rfl, u2⟩ | ⟨e2, u2⟩
      · have := nodup_flatMap_inj hap.1 t1 u1 t2 u2
        cases this; rfl
      · exact absurd rfl (hap.2.2 p₁ (List.mem_flatMap.2 ⟨_, t1, t2⟩) p₁ (e2 ▸ u2))
      · exact absurd rfl (hap.2.2 p₁ (List.mem_flatMap.2 ⟨_, u1, u2⟩) p₁ (e1 ▸ t2))
      · rw [← e1, ← e2]
  have ht := hN.tr h
  have hLL : ∀ o ∈ ann.objs ++ ann.keep, ∃ ob, s'.obs o = some (some ob) ∧ head.obs o = some (some ob) ∧ headLoc s' ann.slots β o = β o := by
    intro o ho
    rcases List.mem_append.1 ho with ho | ho
    · obtain ⟨ob, k1, k2, _⟩ := f2 o ho
      exact ⟨ob, k2, k1, headLoc_other (hnh o (List.mem_append.2 (.inl ho)))⟩
    · have hh := hnh o (List.mem_append.2 (.inr ho))
      obtain ⟨ob, hob, _⟩ := keepOk_live hkok ho
      refine ⟨ob, hkeep o ho ob hob, ?_, headLoc_other hh⟩
      rw [f4 o hh (hno o ho)]
      simp only [headBase, memN_iff.2 ho, cond_true]
      exact hob
  have hpos : ∀ o b, K.pos o = some b → head.obs o = some none ∨ ∃ ob, head.obs o = some (some ob) ∧ isRow ob = false ∧ (headLoc s' ann.slots β o).blk = some b := by
    intro o b ho
    have hh : o ∉ hids ann.slots := by
      intro hh
      obtain ⟨t, ht, rfl⟩ := mem_hids hh
      have h1 := K.posr _ _ ho
      have h2 := List.all_eq_true.1 hslots (t, true) ht
      simp only [Bool.and_eq_true] at h2
      have h2 := Nat.le_of_ble_eq_true h2.2
      simp only [hid] at h1
      omega
    have hin : o ∈ ann.objs ++ ann.keep → head.obs o = some none ∨ ∃ ob, head.obs o = some (some ob) ∧ isRow ob = false ∧ (headLoc s' ann.slots β o).blk = some b := by
      intro hm
      obtain ⟨ob, h1, h2, h3⟩ := hLL o hm
      rcases h.pos o b ho with h4 | ⟨ob', h4, h5, h6⟩
      · rw [h1] at h4; cases h4
      · rw [h1] at h4; cases h4
        exact .inr ⟨_, h2, h5, by rw [h3]; exact h6⟩
    by_cases hob : o ∈ ann.objs
    · exact hin (List.mem_append.2 (.inl hob))
    · by_cases hk : o ∈ ann.keep
      · exact hin (List.mem_append.2 (.inr hk))
      · left
        rw [f4 o hh hob]
        simp only [headBase]
        cases hkm : memN o ann.keep with
        | true => exact absurd (memN_iff.1 hkm) hk
        | false =>
          have := hps o b ho
          show dropOb (s₀.obs o) = some none
          cases hs0 : s₀.obs o with
          | none => exact absurd hs0 this
          | some _ => rfl
  refine ⟨_, head_rel h hN ?_ ?_ (fun t => ?_) hpos, ht⟩
  · intro o v ho u hu
    have hmem : v.within (ann.objs ++ ann.keep) = true := by
      by_cases hh : o ∈ hids ann.slots
      · obtain ⟨t, ht, rfl⟩ := mem_hids hh
        rcases f1 _ ht with ⟨hf, _⟩ | ⟨_, e₀, e, l, k1, k2, k3⟩
        · cases hf
        · rw [show head.obs (hid t) = _ from k2] at ho; cases ho
      · by_cases hob : o ∈ ann.objs
        · obtain ⟨ob', k1, k2, k3, k4⟩ := f2 o hob
          rw [k1] at ho; cases ho; cases k4
        · rw [f4 o hh hob] at ho
          simp only [headBase] at ho
          cases hk : memN o ann.keep with
          | false => rw [hk] at ho; exact absurd ho dropOb_ne
          | true =>
            rw [hk] at ho
            obtain ⟨ob, hob2, _, hw⟩ := keepOk_live hkok (memN_iff.1 hk)
            rw [show s₀.obs o = _ from ho] at hob2; cases hob2
            exact hw v rfl
    exact AV.keep_rep hLL ht hmem hu
  · have hy := hf.yl
    cases hyy : cx.yl with
    | none => rw [hyy] at hy; exact .inr hy.1
    | some y =>
      rw [hyy] at hy hyl
      obtain ⟨ob, k1, k2, _⟩ := f2 y.gid (memN_iff.1 hyl)
      left
      rw [hy.gid, k1, k2]
  have hold : ∀ t, AVRep K.P s' β w (Mset K.Mg s' β) (s'.env t).v (a.tmps.getD t undef) := fun t => (h.env t).1 (by rw [hn' t]; intro x hx; cases hx)
  by_cases hts : t ∈ ann.slots.map (·.1)
  · obtain ⟨⟨t', r⟩, hts', rfl⟩ := List.mem_map.1 hts
    rcases f1 _ hts' with ⟨hr, e, v, y, k1, k2, k3⟩ | ⟨hr, e₀, e, l, k1, k2, k3⟩
    · have hr : r = false := hr
      subst hr
      rw [show head.env t' = _ from k3]
      refine ⟨fun _ => ?_, fun hh => absurd (fun x hx => by cases hx) hh⟩
      refine castD_vrep k2 (AV.dv_rep hcx h (hold t') k1 ⟨fun b hb => ?_, fun o ho b hb hM => ?_⟩)
      · rcases hb with hb | ⟨o, ob, h1, h2, h3⟩
        · exact .inl hb
        · rcases hN.live o ob h1 with ⟨_, e1, _⟩ | ⟨o', e1, e2⟩
          · rw [e1] at h3; cases h3
          · exact .inr ⟨o', ob, e1, h2, e2 ▸ h3⟩
      · obtain ⟨ob, hob⟩ := open_live ho
        rcases hM with hM | ⟨o₁, ob₁, h1, h2, h3⟩
        · exact h.dis o ob b hob hb hM
        · rcases src o₁ ob₁ h1 with ⟨_, e1, _⟩ | ⟨p, q1, q2, q3⟩
          · rw [e1] at h3; cases h3
          · rw [q2] at h3
            have hp := h.inj p o _ _ b q1 hob h3 hb
            subst hp
            have hmem : p ∈ ann.slots.flatMap (slotId s') ++ (ann.objs ++ ann.keep) := by
              rcases q3 with ⟨t₁, t1, _, t2⟩ | ⟨e1, t2⟩
              · exact List.mem_append.2 (.inl (List.mem_flatMap.2 ⟨_, t1, t2⟩))
              · exact List.mem_append.2 (.inr (e1 ▸ t2))
            have := hd2 p (List.mem_flatMap.2 ⟨(t', false), hts', ho⟩)
            rw [memN_iff.2 hmem] at this; cases this
    · have hr : r = true := hr
      subst hr
      rw [show head.env t' = _ from k1]
      refine ⟨fun _ => ?_, fun hh => absurd (fun x hx => by cases hx) hh⟩
      simp only [AVRep, SVRep]
      rw [show head.obs (hid t') = _ from k2]
      refine ⟨rfl, ?_⟩
      rw [headLoc_hid hts']
      have hv := hold t'
      rcases k3 with ⟨e', k4, rfl⟩ | ⟨o', k4, k5⟩
      · have k4 : (s'.env t').v = _ := k4
        rw [k4] at hv ⊢
        exact hv
      · have k4 : (s'.env t').v = _ := k4
        rw [k4] at hv ⊢
        simp only [AVRep, SVRep, k5] at hv
        exact hv.2
  · rw [f3 t hts]
    simp only [headBase]
    cases hcd : (memN t ds || (!(s₀.env t).v.within (ann.objs ++ ann.keep) || !Nat.ble (t + 1) nt)) with
    | true => exact ⟨fun _ => trivial, fun hh => absurd (fun x hx => by cases hx) hh⟩
    | false =>
      simp only [cond_false]
      refine ⟨fun _ => ?_, fun hh => absurd (by rw [hn t]; intro x hx; cases hx) hh⟩
      simp only [Bool.or_eq_false_iff, Bool.not_eq_false'] at hcd
      obtain ⟨c1, c2, c3⟩ := hcd
      cases hu : isUn (s₀.env t).v with
      | true =>
        cases hv : (s₀.env t).v <;> rw [hv] at hu <;> first | trivial | cases hu
      | false =>
        have he := henv t (fun hm => by rw [memN_iff.2 hm] at c1; cases c1) (Nat.le_of_ble_eq_true c3) c2 hu
        have hv := hold t
        rw [he] at hv
        exact AV.keep_rep hLL ht c2 hv
end
end Go.Sx
