/-
  The symbolic layer, part 24: a loop's head.
-/
import Derived.Test.YtlkegffejcndbaaSxN
set_option linter.all false
namespace Go.Sx
section
variable {cx : Cx} {s s' base : ASt}

/-- A shape is of the kind that a slot's mark says. -/
def ShpOk (r : Bool) : Shp → Prop
  | .d _ => r = false
  | .row _ _ => r = true
  | .g _ => False
def Match : List (Nat × Bool) → List Nat → List Shp → Prop
  | [], [], [] => True
  | (_, r) :: sl, ob, h :: hs => ShpOk r h ∧ Match sl ob hs
  | [], _ :: ob, _ :: hs => Match [] ob hs
  | _, _, _ => False

/-- What the head knows of a slot, out of the state that it is read off. -/
def SlotF (cx : Cx) (s' head : ASt) (t : Nat) (r : Bool) : Prop :=
  (r = false ∧ ∃ e v y, (s'.env t).v.dv cx s' = some v ∧ castD v.t e v.x = some y ∧ head.env t = ⟨[], .s (.d e y)⟩) ∨
  (r = true ∧ ∃ e₀ e l, head.env t = ⟨[], .s (.os (hid t))⟩ ∧ head.obs (hid t) = some (some (.row false e₀ e l)) ∧
    ((∃ e', (s'.env t).v = .s (.nl e₀ e') ∧ l = []) ∨ ∃ o, (s'.env t).v = .s (.os o) ∧ s'.obs o = some (some (.row false e₀ e l))))
def ObjF (s' head : ASt) (o : Nat) : Prop := ∃ ob, head.obs o = some (some ob) ∧ s'.obs o = some (some ob) ∧ obFz ob = false ∧ isBv ob = false

theorem castD_sl {t t' : Ty} {x : List t.D} {y : List t'.D} (h : castD (.sl t) (.sl t') x = some y) : ∃ e : t = t', y = e ▸ x := by
  obtain ⟨e, h⟩ := castD_some h
  cases e
  exact ⟨rfl, h⟩

theorem collect_cons_slot {t : Nat} {r : Bool} {sl : List (Nat × Bool)} {ob : List Nat} {h : Shp} {hs : List Shp} {x : Shps (h :: hs)} (hc : collect cx s' ((t, r) :: sl) ob (h :: hs) = some x) :
    ∃ (y : h.D) (z : Shps hs), slotVal cx s' t h = some y ∧ collect cx s' sl ob hs = some z ∧ ∀ base, spread base ((t, r) :: sl) ob (h :: hs) x = putSlot (spread base sl ob hs z) t h y := by
  cases hs with
  | nil =>
    match sl, ob with
    | [], [] => exact ⟨x, (), hc, rfl, fun _ => rfl⟩
    | [], _ :: _ => simp [collect] at hc
    | _ :: _, [] => simp [collect] at hc
    | _ :: _, _ :: _ => simp [collect] at hc
  | cons h' hs =>
    have e1 : collect cx s' ((t, r) :: sl) ob (h :: h' :: hs) = match slotVal cx s' t h, collect cx s' sl ob (h' :: hs) with
      | some x, some y => some (x, y)
      | _, _ => none := by
      match sl, ob with
      | [], [] => rfl
      | [], _ :: _ => rfl
      | _ :: _, [] => rfl
      | _ :: _, _ :: _ => rfl
    rw [e1] at hc
    split at hc
    · rename_i y z h1 h2
      cases hc
      refine ⟨y, z, h1, h2, fun base => ?_⟩
      match sl, ob with
      | [], [] => rfl
      | [], _ :: _ => rfl
      | _ :: _, [] => rfl
      | _ :: _, _ :: _ => rfl
    · cases hc
theorem collect_cons_obj {o : Nat} {ob : List Nat} {h : Shp} {hs : List Shp} {x : Shps (h :: hs)} (hc : collect cx s' [] (o :: ob) (h :: hs) = some x) :
    ∃ (y : h.D) (z : Shps hs), objVal s' o h = some y ∧ collect cx s' [] ob hs = some z ∧ ∀ base, spread base [] (o :: ob) (h :: hs) x = putObj (spread base [] ob hs z) o h y := by
  cases hs with
  | nil =>
    match ob with
    | [] => exact ⟨x, (), hc, rfl, fun _ => rfl⟩
    | _ :: _ => simp [collect] at hc
  | cons h' hs =>
    have e1 : collect cx s' [] (o :: ob) (h :: h' :: hs) = match objVal s' o h, collect cx s' [] ob (h' :: hs) with
      | some x, some y => some (x, y)
      | _, _ => none := by
      match ob with
      | [] => rfl
      | _ :: _ => rfl
    rw [e1] at hc
    split at hc
    · rename_i y z h1 h2
      cases hc
      refine ⟨y, z, h1, h2, fun base => ?_⟩
      match ob with
      | [] => rfl
      | _ :: _ => rfl
    · cases hc

theorem hid_inj {t t' : Nat} (h : hid t = hid t') : t = t' := by simp only [hid] at h; omega

/-- Object ids that the head makes for rows. -/
def hids (sl : List (Nat × Bool)) : List Nat := (sl.filter (·.2)).map fun x => hid x.1
theorem mem_hids {sl : List (Nat × Bool)} {o : Nat} (h : o ∈ hids sl) : ∃ t, (t, true) ∈ sl ∧ o = hid t := by
  obtain ⟨⟨t, r⟩, h1, rfl⟩ := List.mem_map.1 h
  obtain ⟨h1, h2⟩ := List.mem_filter.1 h1
  have : r = true := h2
  subst this
  exact ⟨t, h1, rfl⟩

theorem putSlot_env {base : ASt} {t : Nat} {h : Shp} {y : h.D} {t' : Nat} (ht : t' ≠ t) : (putSlot base t h y).env t' = base.env t' := by
  cases h <;> first | exact put_other _ _ ht | rfl
theorem putSlot_obs {base : ASt} {t : Nat} {h : Shp} {y : h.D} {o : Nat} (ho : o ≠ hid t) : (putSlot base t h y).obs o = base.obs o := by
  cases h
  · rfl
  · exact put_other _ _ ho
  · rfl
theorem putObj_env {base : ASt} {t : Nat} {h : Shp} {y : h.D} : (putObj base t h y).env = base.env := by cases h <;> rfl
theorem putObj_obs {base : ASt} {t : Nat} {h : Shp} {y : h.D} {o : Nat} (ho : o ≠ t) : (putObj base t h y).obs o = base.obs o := by
  cases h <;> exact put_other _ _ ho

theorem SlotF.congr {head head' : ASt} {t : Nat} {r : Bool} (h : SlotF cx s' head t r) (he : head'.env t = head.env t) (ho : r = true → head'.obs (hid t) = head.obs (hid t)) : SlotF cx s' head' t r := by
  rcases h with ⟨h1, e, v, y, h2, h3, h4⟩ | ⟨h1, e₀, e, l, h2, h3, h4⟩
  · exact .inl ⟨h1, e, v, y, h2, h3, he.trans h4⟩
  · exact .inr ⟨h1, e₀, e, l, he.trans h2, (ho h1).trans h3, h4⟩

theorem head_fact : ∀ {hs : List Shp} {sl : List (Nat × Bool)} {ob : List Nat} {x : Shps hs}, Match sl ob hs → collect cx s' sl ob hs = some x → (sl.map (·.1)).Nodup → (hids sl ++ ob).Nodup →
    (∀ y ∈ sl, SlotF cx s' (spread base sl ob hs x) y.1 y.2) ∧ (∀ o ∈ ob, ObjF s' (spread base sl ob hs x) o) ∧
    (∀ t, t ∉ sl.map (·.1) → (spread base sl ob hs x).env t = base.env t) ∧ ∀ o, o ∉ hids sl → o ∉ ob → (spread base sl ob hs x).obs o = base.obs o
  | [], sl, ob, x, hm, hc, _, _ => by
    match sl, ob with
    | [], [] => exact ⟨fun y hy => (by cases hy), fun o ho => (by cases ho), fun t _ => rfl, fun o _ _ => rfl⟩
    | _ :: _, _ => exact hm.elim
    | [], _ :: _ => exact hm.elim
  | h :: hs, sl, ob, x, hm, hc, hn1, hn2 => by
    match sl, ob with
    | [], [] => exact hm.elim
    | (t, r) :: sl, ob =>
      obtain ⟨y, z, h1, h2, h3⟩ := collect_cons_slot hc
      have hmm : Match sl ob hs := by cases ob <;> exact hm.2
      have hsh : ShpOk r h := by cases ob <;> exact hm.1
      have hn1' := List.nodup_cons.1 hn1
      have hn2' : (hids sl ++ ob).Nodup ∧ (r = true → hid t ∉ hids sl ++ ob) := by
        cases r with
        | false => exact ⟨hn2, fun h => by cases h⟩
        | true =>
          have := List.nodup_cons.1 (show (hid t :: (hids sl ++ ob)).Nodup from hn2)
          exact ⟨this.2, fun _ => this.1⟩
      obtain ⟨g1, g2, g3, g4⟩ := head_fact hmm h2 hn1'.2 hn2'.1
      rw [h3]
      have hrow : ∀ o, (∃ e₀ e, h = .row e₀ e) → o ≠ hid t → True := fun _ _ _ => trivial
      refine ⟨?_, ?_, ?_, ?_⟩
      · intro q hq
        rcases List.mem_cons.1 hq with rfl | hq
        · cases h with
          | g _ => exact hsh.elim
          | d e =>
            left
            refine ⟨hsh, e, ?_⟩
            simp only [slotVal] at h1
            split at h1
            · rename_i v hv
              exact ⟨v, y, hv, h1, put_same _ _ _⟩
            · cases h1
          | row e₀ e =>
            right
            refine ⟨hsh, e₀, e, y, put_same _ _ _, put_same _ _ _, ?_⟩
            simp only [slotVal] at h1
            split at h1
            · rename_i e₁ t₁ hv
              cases hb : Nat.beq e₁ e₀ with
              | false => rw [hb] at h1; cases h1
              | true =>
                rw [hb] at h1
                have := Nat.eq_of_beq_eq_true hb
                subst this
                simp only [cond_true, Option.some.injEq] at h1
                exact .inl ⟨_, hv, h1.symm⟩
            · rename_i o hv
              split at h1
              · rename_i e₁ e' l ho
                cases hb : Nat.beq e₁ e₀ with
                | false => rw [hb] at h1; cases h1
                | true =>
                  rw [hb] at h1
                  have := Nat.eq_of_beq_eq_true hb
                  subst this
                  simp only [cond_true] at h1
                  obtain ⟨e2, h4⟩ := castD_sl h1
                  subst e2
                  have h4 : y = l := h4
                  subst h4
                  exact .inr ⟨o, hv, ho⟩
              · cases h1
            · cases h1
        · have hne : q.1 ≠ t := fun e => hn1'.1 (List.mem_map.2 ⟨q, hq, e⟩)
          refine (g1 q hq).congr (putSlot_env hne) fun hr => putSlot_obs fun e => hne (hid_inj e)
      · intro o ho
        obtain ⟨ob', k1, k2⟩ := g2 o ho
        refine ⟨ob', ?_, k2⟩
        cases h with
        | g _ => exact hsh.elim
        | d e => exact k1
        | row e₀ e =>
          have hr : r = true := hsh
          exact (putSlot_obs fun e => hn2'.2 hr (List.mem_append.2 (.inr (e ▸ ho)))).trans k1
      · intro t' ht'
        simp only [List.map_cons, List.mem_cons, not_or] at ht'
        rw [putSlot_env ht'.1]
        exact g3 t' ht'.2
      · intro o ho ho'
        cases h with
        | g _ => exact hsh.elim
        | d e =>
          have hr : r = false := hsh
          subst hr
          exact g4 o ho ho'
        | row e₀ e =>
          have hr : r = true := hsh
          subst hr
          have ho2 : o ≠ hid t ∧ o ∉ hids sl := by
            have : hids ((t, true) :: sl) = hid t :: hids sl := rfl
            rw [this] at ho
            simpa using ho
          rw [putSlot_obs ho2.1]
          exact g4 o ho2.2 ho'
    | [], o :: ob =>
      obtain ⟨y, z, h1, h2, h3⟩ := collect_cons_obj hc
      have hmm : Match [] ob hs := hm
      have hn2' := List.nodup_cons.1 (show (o :: ob).Nodup from hn2)
      obtain ⟨g1, g2, g3, g4⟩ := head_fact hmm h2 hn1 hn2'.2
      rw [h3]
      refine ⟨fun y hy => (by cases hy), ?_, ?_, ?_⟩
      · intro q hq
        rcases List.mem_cons.1 hq with rfl | hq
        · cases h with
          | g e =>
            simp only [objVal] at h1
            split at h1
            · rename_i t x' ho
              obtain ⟨e2, h4⟩ := castD_some h1
              subst e2
              have h4 : y = x' := h4
              subst h4
              exact ⟨_, put_same _ _ _, ho, rfl, rfl⟩
            · cases h1
          | d e =>
            simp only [objVal] at h1
            split at h1
            · rename_i t x' ho
              obtain ⟨e2, h4⟩ := castD_some h1
              subst e2
              have h4 : y = x' := h4
              subst h4
              exact ⟨_, put_same _ _ _, ho, rfl, rfl⟩
            · cases h1
          | row e₀ e =>
            simp only [objVal] at h1
            split at h1
            · rename_i e₁ e' l ho
              cases hb : Nat.beq e₁ e₀ with
              | false => rw [hb] at h1; cases h1
              | true =>
                rw [hb] at h1
                have := Nat.eq_of_beq_eq_true hb
                subst this
                simp only [cond_true] at h1
                obtain ⟨e2, h4⟩ := castD_sl h1
                subst e2
                have h4 : y = l := h4
                subst h4
                exact ⟨_, put_same _ _ _, ho, rfl, rfl⟩
            · cases h1
        · obtain ⟨ob', k1, k2⟩ := g2 q hq
          exact ⟨ob', (putObj_obs fun e => hn2'.1 (by rw [← e]; exact hq)).trans k1, k2⟩
      · intro t' ht'
        rw [putObj_env]; exact g3 t' ht'
      · intro q hq hq'
        simp only [List.mem_cons, not_or] at hq'
        rw [putObj_obs hq'.1]
        exact g4 q hq hq'.2
end
end Go.Sx
