/-
  The symbolic layer, eighth part: what the operations do.
-/
import Derived.Test.YtlkegffejcndbaaSx7
set_option linter.all false
namespace Go.Sx
section
variable {K : Ctx} {s : ASt} {a : Act} {w w' : World} {β : Nat → Loc} {cx : Cx} {g : List (Nat × Bool)} {o : Oper} {e : Eff}

/-- The objects behind an operation. -/
def after (s : ASt) (wr : List (Nat × Option Ob)) : ASt := { s with obs := puts s.obs (wr.map fun x => (x.1, some x.2)) }
theorem after_nil : after s [] = s := rfl
theorem after_cons {x : Nat} {ob : Option Ob} {r : List (Nat × Option Ob)} : after s ((x, ob) :: r) = { (after s r) with obs := put (after s r).obs x (some ob) } := rfl

/-- An operation yields a value. -/
def Did (K : Ctx) (s : ASt) (a : Act) (w : World) (o : Oper) (e : Eff) : Prop :=
  ∃ v w' β', (execOp a.eval o).run K.P w = .ok (.value v) w' ∧ RelB K (after s e.wr) a w' β' ∧ AVRep K.P (after s e.wr) β' w' (Mset K.Mg (after s e.wr) β') e.av v

theorem did_pure (h : RelB K s a w β) {v : Value} (he : e.wr = []) (hr : (execOp a.eval o).run K.P w = .ok (.value v) w) (hv : AVRep K.P s β w (Mset K.Mg s β) e.av v) : Did K s a w o e := by
  refine ⟨v, w, β, hr, ?_, ?_⟩ <;> rw [he] <;> simpa using ‹_›

/-- Data that an operation takes for good. -/
theorem solid_rep (hcx : CxOk K.P cx) (h : RelB K s a w β) {l : List AV} {us : List Value} {vs : List Dv} {ids : List Nat} {fz : List (Nat × Option Ob)} (hs : solid cx s l = some (vs, ids, fz)) (hl : All2 (AVRep K.P s β w (Mset K.Mg s β)) l us) :
    RelB K (after s fz) a w β ∧ Compat s β (after s fz) β ∧ Tr (Mset K.Mg s β) w (Mset K.Mg (after s fz) β) w ∧ All2 (fun (u : Value) (d : Dv) => VRep K.P d.t w (Mset K.Mg (after s fz) β) u d.x) us vs := by
  unfold solid at hs
  split at hs
  · rename_i vs' hv
    cases hs
    obtain ⟨h1, h2, h3, h4⟩ := h.freeze (l.flatMap (AV.open? s))
    refine ⟨h1, h3, h2, avs_rep hcx h hl (optAll_all2 hv) ⟨fun b hb => h2.2 b (h1.mset_lt hb) hb, ?_⟩⟩
    intro x hx b hb
    have hop : ∃ ob, s.obs x = some (some ob) ∧ canFz ob = true := by
      obtain ⟨av, _, hav⟩ := List.mem_flatMap.1 hx
      have key : ∀ v : SV, x ∈ v.open? s → ∃ ob, s.obs x = some (some ob) ∧ canFz ob = true := by
        intro v hv
        cases v with
        | d t y => cases hv
        | nl e t => cases hv
        | mp o => cases hv
        | ptr o p =>
          simp only [SV.open?] at hv
          split at hv <;> simp at hv
          · subst hv; exact ⟨_, ‹_›, rfl⟩
          · subst hv; exact ⟨_, ‹_›, rfl⟩
        | os o =>
          simp only [SV.open?] at hv
          split at hv <;> simp at hv
          subst hv; exact ⟨_, ‹_›, rfl⟩
      cases av with
      | un => cases hav
      | yl _ => cases hav
      | tup l => cases hav
      | s v => exact key v hav
      | clo f c =>
        obtain ⟨v, _, hv⟩ := List.mem_flatMap.1 hav
        exact key v hv
    obtain ⟨ob, ho, hbv⟩ := hop
    exact h4 x hx b (fun ob' ho' => by rw [ho] at ho'; cases ho'; exact hbv) ⟨ob, ho⟩ hb
  · cases hs

theorem gh_put {f : Nat → Option (Option Ob)} {x y : Nat} {ob : Ob} (h : isGh ob = false) (h' : ghOf (f x) = none) : ghOf (put f x (some (some ob)) y) = ghOf (f y) := by
  by_cases e : y = x
  · subst e
    rw [put_same, h']
    cases ob <;> first | rfl | cases h
  · rw [put_other _ _ e]
theorem gh_none {x : Option (Option Ob)} {ob : Ob} (h : x = some (some ob)) (h' : isGh ob = false) : ghOf x = none := by
  subst h; cases ob <;> first | rfl | cases h'

/-- A new object. -/
theorem RelB.new (h : RelB K s a w β) {d : Nat} {ob : Ob} {L : Loc} (hd : s.obs d = none) (hx : Ext noM w w') (hL : ∀ b, L.blk = some b → w.heap.size ≤ b) (hng : isGh ob = false)
    (hob : Tr (Mset K.Mg s β) w (Mset K.Mg { s with obs := put s.obs d (some (some ob)) } (Sx.put β d L)) w' → ObRep K.P { s with obs := put s.obs d (some (some ob)) } (Sx.put β d L) w' (Mset K.Mg { s with obs := put s.obs d (some (some ob)) } (Sx.put β d L)) L ob) :
    RelB K { s with obs := put s.obs d (some (some ob)) } a w' (Sx.put β d L) ∧ Compat s β { s with obs := put s.obs d (some (some ob)) } (Sx.put β d L) ∧
      Tr (Mset K.Mg s β) w (Mset K.Mg { s with obs := put s.obs d (some (some ob)) } (Sx.put β d L)) w' := by
  have hne : ∀ x r, s.obs x = some r → x ≠ d := fun x r hx hxd => by rw [hxd, hd] at hx; cases hx
  have hcc : Compat s β { s with obs := put s.obs d (some (some ob)) } (Sx.put β d L) := by
    refine ⟨fun x hx => ?_, fun x ob' hx => .inr ⟨ob', ?_, ?_, .refl _⟩⟩
    · show put s.obs d _ x = _
      rw [put_other _ _ (hne x _ hx)]; exact hx
    · show put s.obs d _ x = _
      rw [put_other _ _ (hne x _ hx)]; exact hx
    · rw [put_other _ _ (hne x _ hx)]
  have hcase : ∀ x ob', put s.obs d (some (some ob)) x = some (some ob') → (x = d ∧ ob' = ob) ∨ (x ≠ d ∧ s.obs x = some (some ob')) := by
    intro x ob' hx
    by_cases hxd : x = d
    · subst hxd; rw [put_same] at hx; cases hx; exact .inl ⟨rfl, rfl⟩
    · rw [put_other _ _ hxd] at hx; exact .inr ⟨hxd, hx⟩
  obtain ⟨h1, h2⟩ := h.step (s' := { s with obs := put s.obs d (some (some ob)) }) (β' := Sx.put β d L) hcc (hx.mono fun _ _ h => h.elim)
    (by
      rintro b hb ⟨x, ob', hx', hf, hbx⟩
      rcases hcase x ob' hx' with ⟨rfl, rfl⟩ | ⟨hxd, hx'⟩
      · rw [put_same] at hbx; have := hL b hbx; omega
      · rw [put_other _ _ hxd] at hbx; exact ⟨x, ob', hx', hf, hbx⟩)
    (by
      intro x ob' hx'
      rcases hcase x ob' hx' with ⟨rfl, rfl⟩ | ⟨hxd, hx'⟩
      · rw [put_same]; exact .inr hob
      · refine .inl ⟨hx', put_other _ _ hxd, fun b hb => hx.2 b (h.blk_lt hx' hb) id⟩)
    (by
      intro x y ob₁ ob₂ b h1 h2 h3 h4
      rcases hcase x ob₁ h1 with ⟨rfl, rfl⟩ | ⟨hxd, g1⟩ <;> rcases hcase y ob₂ h2 with ⟨rfl, rfl⟩ | ⟨hyd, g2⟩
      · rfl
      · rw [put_same] at h3; rw [put_other _ _ hyd] at h4
        have := hL b h3; have := h.blk_lt g2 h4; omega
      · rw [put_same] at h4; rw [put_other _ _ hxd] at h3
        have := hL b h4; have := h.blk_lt g1 h3; omega
      · rw [put_other _ _ hxd] at h3; rw [put_other _ _ hyd] at h4
        exact h.inj x y _ _ b g1 g2 h3 h4)
    (by
      intro x ob' b hx' hb
      rcases hcase x ob' hx' with ⟨rfl, rfl⟩ | ⟨hxd, hx'⟩
      · rw [put_same] at hb; exact .inl (hL b hb)
      · rw [put_other _ _ hxd] at hb; exact .inr ⟨x, ob', hx', id, hb⟩) rfl (gh_put hng (by rw [hd]; rfl))
  exact ⟨h1, hcc, h2⟩

/-- An object is written. -/
theorem RelB.write (h : RelB K s a w β) {x b : Nat} {ob ob' : Ob} (ho : s.obs x = some (some ob)) (hf : obFz ob = false) (hf' : obFz ob' = false) (hl : Like ob ob') (hng : isGh ob = false) (hng' : isGh ob' = false) (hb : (β x).blk = some b) (hsz : w'.heap.size = w.heap.size)
    (hsame : ∀ c, c ≠ b → w'.heap[c]? = w.heap[c]?)
    (hob : Tr (Mset K.Mg s β) w (Mset K.Mg { s with obs := put s.obs x (some (some ob')) } β) w' → Compat s β { s with obs := put s.obs x (some (some ob')) } β → ObRep K.P { s with obs := put s.obs x (some (some ob')) } β w' (Mset K.Mg { s with obs := put s.obs x (some (some ob')) } β) (β x) ob') (hio : w'.os = w.os ∧ w'.output = w.output := by exact ⟨rfl, rfl⟩) :
    RelB K { s with obs := put s.obs x (some (some ob')) } a w' β ∧ Compat s β { s with obs := put s.obs x (some (some ob')) } β ∧
      Tr (Mset K.Mg s β) w (Mset K.Mg { s with obs := put s.obs x (some (some ob')) } β) w' := by
  have hcase : ∀ y ob₁, put s.obs x (some (some ob')) y = some (some ob₁) → (y = x ∧ ob₁ = ob') ∨ (y ≠ x ∧ s.obs y = some (some ob₁)) := by
    intro y ob₁ hy
    by_cases hyx : y = x
    · subst hyx; rw [put_same] at hy; cases hy; exact .inl ⟨rfl, rfl⟩
    · rw [put_other _ _ hyx] at hy; exact .inr ⟨hyx, hy⟩
  have hold : ∀ y ob₁, put s.obs x (some (some ob')) y = some (some ob₁) → ∃ ob₂, s.obs y = some (some ob₂) := by
    intro y ob₁ hy
    rcases hcase y ob₁ hy with ⟨rfl, rfl⟩ | ⟨_, hy⟩
    · exact ⟨ob, ho⟩
    · exact ⟨_, hy⟩
  have hcc : Compat s β { s with obs := put s.obs x (some (some ob')) } β := by
    refine ⟨fun y hy => ?_, fun y ob₁ hy => .inr ?_⟩
    · show put s.obs x _ y = _
      rw [put_other _ _ (fun e => by rw [e, ho] at hy; cases hy)]; exact hy
    · by_cases hyx : y = x
      · subst hyx
        rw [ho] at hy; cases hy
        exact ⟨ob', put_same _ _ _, rfl, hl⟩
      · exact ⟨ob₁, (put_other _ _ hyx).trans hy, rfl, .refl _⟩
  obtain ⟨h1, h2⟩ := h.step (s' := { s with obs := put s.obs x (some (some ob')) }) (β' := β) hcc
    ⟨Nat.le_of_eq hsz.symm, fun c _ hc => hsame c fun e => hc ⟨x, ob, ho, hf, e ▸ hb⟩, hio⟩
    (by
      rintro c _ ⟨y, ob₁, hy, hf₁, hby⟩
      rcases hcase y ob₁ hy with ⟨rfl, rfl⟩ | ⟨_, hy⟩
      · exact ⟨y, ob, ho, hf, hby⟩
      · exact ⟨y, ob₁, hy, hf₁, hby⟩)
    (by
      intro y ob₁ hy
      rcases hcase y ob₁ hy with ⟨rfl, rfl⟩ | ⟨hyx, hy⟩
      · exact .inr fun ht => hob ht hcc
      · refine .inl ⟨hy, rfl, fun c hc => hsame c fun e => hyx (h.inj y x _ _ b hy ho (e ▸ hc) hb)⟩)
    (by
      intro y z ob₁ ob₂ c h1 h2 h3 h4
      obtain ⟨_, h1⟩ := hold y ob₁ h1
      obtain ⟨_, h2⟩ := hold z ob₂ h2
      exact h.inj y z _ _ c h1 h2 h3 h4)
    (by
      intro y ob₁ c hy hc
      rcases hcase y ob₁ hy with ⟨rfl, rfl⟩ | ⟨_, hy⟩
      · exact .inr ⟨y, ob, ho, fun _ => hf, hc⟩
      · exact .inr ⟨y, _, hy, id, hc⟩) rfl (gh_put hng' (gh_none ho hng))
  exact ⟨h1, hcc, h2⟩
end
end Go.Sx
