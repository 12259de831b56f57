/-
  The symbolic layer, part 26: loops.
-/
import Derived.Test.YtlkegffejcndbaaSxP
set_option linter.all false
namespace Go.Sx
section
variable {K : Ctx} {cx : Cx} {s s' s₀ head : ASt} {a : Act} {w : World} {β β' : Nat → Loc}

theorem exists_min {p : Nat → Prop} (h : ∃ n, p n) : ∃ n, p n ∧ ∀ k, p k → n ≤ k := by
  obtain ⟨n, hn⟩ := h
  induction n using Nat.strongRecOn with
  | _ n ih =>
    by_cases hlt : ∃ k, k < n ∧ p k
    · obtain ⟨k, hk, hp⟩ := hlt
      exact ih k hk hp
    · exact ⟨n, hn, fun k hk => Nat.le_of_not_lt fun hlt' => hlt ⟨k, hlt', hk⟩⟩

theorem slotShp_ok {t : Nat} {r : Bool} {h : Shp} (hs : slotShp s t r = some h) : ShpOk r h := by
  unfold slotShp at hs
  split at hs
  · cases hs; rfl
  · split at hs <;> cases hs; rfl
  · cases hs; rfl
  · cases hs; rfl
  · cases hs
theorem objs_match : ∀ {ob : List Nat} {hs : List Shp}, optAll (objShp s) ob = some hs → Match [] ob hs
  | [], hs, h => by simp only [optAll, Option.some.injEq] at h; subst h; trivial
  | o :: ob, hs, h => by
    simp only [optAll] at h
    split at h
    · cases h
      show Match [] ob _
      exact objs_match ‹optAll (objShp s) ob = some _›
    · cases h
theorem slots_match : ∀ {sl : List (Nat × Bool)} {ob : List Nat} {x y : List Shp}, optAll (fun x => slotShp s x.1 x.2) sl = some x → optAll (objShp s) ob = some y → Match sl ob (x ++ y)
  | [], ob, x, y, h, h' => by
    simp only [optAll, Option.some.injEq] at h
    subst h
    exact objs_match h'
  | (t, r) :: sl, ob, x, y, h, h' => by
    simp only [optAll] at h
    split at h
    · rename_i p q h1 h2
      cases h
      have := slots_match h2 h'
      cases ob <;> exact ⟨slotShp_ok h1, this⟩
    · cases h
theorem shpsOf_match {a : LoopAnn} {hs : List Shp} (h : shpsOf s a = some hs) : Match a.slots a.objs hs := by
  unfold shpsOf at h
  split at h
  · rename_i x y h1 h2
    cases h
    exact slots_match h1 h2
  · cases h

theorem sameOb_eq {ob : Ob} {y : Option (Option Ob)} {p : Prop} (h : sameOb (some (some ob)) y = some p) (hp : p) : y = some (some ob) := by
  unfold sameOb at h
  split at h
  · rename_i f t x f' t' x' e1 
    split at h
    · rename_i y' hf hc
      cases h
      obtain ⟨e, hc⟩ := castD_some hc
      cases e
      have hp : y' = _ := hp
      have hc : y' = x' := hc
      have hf := beq_iff_eq.1 hf
      cases e1
      rw [← hf, ← hp, hc]
    · cases h
  · rename_i f e t x f' e' t' x' e1
    split at h
    · rename_i y' hf hc
      cases h
      obtain ⟨e2, hc⟩ := castD_some hc
      cases e2
      have hp : y' = _ := hp
      have hc : y' = x' := hc
      simp only [Bool.and_eq_true, beq_iff_eq] at hf
      have h2 := Nat.eq_of_beq_eq_true hf.2
      cases e1
      rw [← hf.1, ← h2, ← hp, hc]
    · cases h
  · rename_i e1
    cases h
    have hp : MInv.mk _ _ _ = MInv.mk _ _ _ := hp
    cases hp
    exact e1.symm
  · rename_i e1
    cases e1
    rw [eqSV_eq h hp]
  · rename_i f c f' c' e1
    split at h
    · rename_i l hf hl
      cases h
      cases e1
      rw [eqSVs_eq hl hp, Nat.eq_of_beq_eq_true hf]
    · cases h
  · cases h
theorem sameObs_eq {hd s' : ASt} : ∀ {l : List Nat} {ps : List Prop}, sameObs hd s' l = some ps → (∀ p ∈ ps, p) → ∀ o ∈ l, ∀ ob, hd.obs o = some (some ob) → s'.obs o = some (some ob)
  | [], _, _, _, o, ho, _, _ => by cases ho
  | x :: l, ps, h, hp, o, ho, ob, hob => by
    simp only [sameObs] at h
    split at h
    · rename_i ob1 l1 h1 h2
      split at h
      · rename_i p hsp
        cases h
        rcases List.mem_cons.1 ho with rfl | ho
        · rw [hob] at h1; cases h1
          exact sameOb_eq hsp (hp _ List.mem_cons_self)
        · exact sameObs_eq h2 (fun q hq => hp q (List.mem_cons_of_mem _ hq)) o ho ob hob
      · cases h
    · cases h
    · rename_i h3 h4
      rcases List.mem_cons.1 ho with rfl | ho
      · exact absurd hob (fun e => by
          cases hl : sameObs hd s' l with
          | none => exact h4 ob e hl
          | some l1 => exact h3 ob l1 e hl)
      · exact sameObs_eq h hp o ho ob hob

theorem noG_spread : ∀ {sl : List (Nat × Bool)} {ob : List Nat} {hs : List Shp} {x : Shps hs} {base : ASt}, NoG base → NoG (spread base sl ob hs x) := by
  have slot : ∀ {base : ASt} {t : Nat} {h : Shp} {y : h.D}, NoG base → NoG (putSlot base t h y) := by
    intro base t h y hb t'
    cases h with
    | g _ => exact hb t'
    | d e =>
      show (put base.env t _ t').g = []
      by_cases e' : t' = t
      · subst e'; rw [put_same]
      · rw [put_other _ _ e']; exact hb t'
    | row e₀ e =>
      show (put base.env t _ t').g = []
      by_cases e' : t' = t
      · subst e'; rw [put_same]
      · rw [put_other _ _ e']; exact hb t'
  have obj : ∀ {base : ASt} {o : Nat} {h : Shp} {y : h.D}, NoG base → NoG (putObj base o h y) := by
    intro base o h y hb t'
    rw [putObj_env]; exact hb t'
  intro sl ob hs
  induction hs generalizing sl ob with
  | nil => intro x base hb; rcases sl with _ | ⟨y, _ | ⟨y', sl⟩⟩ <;> rcases ob with _ | ⟨o, _ | ⟨o', ob⟩⟩ <;> exact hb
  | cons h hs ih =>
    intro x base hb
    cases hs with
    | nil =>
      match sl, ob with
      | [], [] => exact hb
      | [(t', r)], [] => exact slot hb
      | [], [o] => exact obj hb
      | (t', r) :: y :: sl, ob => exact hb
      | [(t', r)], o :: ob => exact hb
      | [], o :: o' :: ob => exact hb
    | cons h' hs =>
      match sl, ob with
      | [], [] => exact hb
      | (t', r) :: sl, ob =>
        have e : spread base ((t', r) :: sl) ob (h :: h' :: hs) x = putSlot (spread base sl ob (h' :: hs) x.2) t' h x.1 := by
          cases sl <;> cases ob <;> rfl
        rw [e]; exact slot (ih hb)
      | [], o :: ob =>
        have e : spread base [] (o :: ob) (h :: h' :: hs) x = putObj (spread base [] ob (h' :: hs) x.2) o h x.1 := by
          cases ob <;> rfl
        rw [e]; exact obj (ih hb)
theorem noG_base {nt : Nat} {ann : LoopAnn} {ds : List Nat} (h : NoG s) : NoG (headBase nt s ann ds) := by
  intro t
  simp only [headBase]
  cases (memN t ds || (!(s.env t).v.within (ann.objs ++ ann.keep) || !Nat.ble (t + 1) nt)) with
  | true => rfl
  | false => exact h t

theorem head_keep {nt : Nat} {ann : LoopAnn} {ds : List Nat} {yl : Option YInfo} (hann : annOk yl ann ds = true) {hs : List Shp} (hm : Match ann.slots ann.objs hs) {x : Shps hs} {o : Nat} (ho : o ∈ ann.keep) : (spread (headBase nt s ann ds) ann.slots ann.objs hs x).obs o = s.obs o := by
  simp only [annOk, Bool.and_eq_true] at hann
  have hn2 : (hids ann.slots ++ (ann.objs ++ ann.keep)).Nodup := nodup_of hann.2.2.2
  have key : ∀ {sl : List (Nat × Bool)} {ob : List Nat} {hs : List Shp} {x : Shps hs} {base : ASt}, o ∉ hids sl → o ∉ ob → (∀ y ∈ sl, y.2 = false → True) → (∀ y ∈ sl, o ≠ hid y.1 ∨ y.2 = false) → Match sl ob hs → (spread base sl ob hs x).obs o = base.obs o := by
    intro sl ob hs
    induction hs generalizing sl ob with
    | nil => intro x base _ _ _ _ _; rcases sl with _ | ⟨y, _ | ⟨y', sl⟩⟩ <;> rcases ob with _ | ⟨o, _ | ⟨o', ob⟩⟩ <;> rfl
    | cons h hs ih =>
      intro x base h1 h2 h3 h4 hm
      match sl, ob with
      | [], [] => exact hm.elim
      | (t', r) :: sl, ob =>
        have hm' : ShpOk r h ∧ Match sl ob hs := by cases ob <;> exact hm
        have e : ∃ (y : h.D) (z : Shps hs), spread base ((t', r) :: sl) ob (h :: hs) x = putSlot (spread base sl ob hs z) t' h y := by
          cases hs with
          | nil =>
            match sl, ob with
            | [], [] => exact ⟨x, (), rfl⟩
            | [], _ :: _ => exact hm'.2.elim
            | _ :: _, [] => exact hm'.2.elim
            | _ :: _, _ :: _ => exact hm'.2.elim
          | cons h' hs => exact ⟨x.1, x.2, by cases sl <;> cases ob <;> rfl⟩
        obtain ⟨y, z, e⟩ := e
        rw [e]
        have hrec := ih (x := z) (base := base) (fun hh => h1 (by
          obtain ⟨q, hq, rfl⟩ := List.mem_map.1 hh
          exact List.mem_map.2 ⟨q, List.mem_filter.2 ⟨List.mem_cons_of_mem _ (List.mem_filter.1 hq).1, (List.mem_filter.1 hq).2⟩, rfl⟩)) h2 (fun _ _ _ => trivial) (fun q hq => h4 q (List.mem_cons_of_mem _ hq)) hm'.2
        cases h with
        | g _ => exact hm'.1.elim
        | d _ => exact hrec
        | row _ _ =>
          have hr : r = true := hm'.1
          rw [putSlot_obs (fun e' => h1 (by rw [e']; exact List.mem_map.2 ⟨(t', r), List.mem_filter.2 ⟨List.mem_cons_self, hr⟩, rfl⟩))]
          exact hrec
      | [], o' :: ob =>
        have hm' : Match [] ob hs := hm
        have e : ∃ (y : h.D) (z : Shps hs), spread base [] (o' :: ob) (h :: hs) x = putObj (spread base [] ob hs z) o' h y := by
          cases hs with
          | nil =>
            match ob with
            | [] => exact ⟨x, (), rfl⟩
            | _ :: _ => exact hm'.elim
          | cons h' hs => exact ⟨x.1, x.2, by cases ob <;> rfl⟩
        obtain ⟨y, z, e⟩ := e
        rw [e, putObj_obs (fun e' => h2 (by rw [e']; exact List.mem_cons_self))]
        exact ih h1 (fun hh => h2 (List.mem_cons_of_mem _ hh)) (fun _ _ _ => trivial) h4 hm'
  have hno : o ∉ ann.objs := fun hh => by
    have := (List.nodup_append.1 hn2).2.1
    exact (List.nodup_append.1 this).2.2 o hh o ho rfl
  have hnh : o ∉ hids ann.slots := fun hh => (List.nodup_append.1 hn2).2.2 o hh o (List.mem_append.2 (.inr ho)) rfl
  rw [key hnh hno (fun _ _ _ => trivial) (fun q hq => by
      cases hq2 : q.2 with
      | false => exact .inr rfl
      | true => exact .inl fun e => hnh (by rw [e]; exact List.mem_map.2 ⟨q, List.mem_filter.2 ⟨hq, hq2⟩, rfl⟩)) hm]
  simp only [headBase, memN_iff.2 ho, cond_true]

theorem conj_out {l : List Prop} {q : Prop} (h : conj l q) : (∀ p ∈ l, p) ∧ q := conj_all h

/-- **Loops.** -/
theorem loop_rule : LoopRule cx := by
  intro K r n c hcx hf hbody hrf hfx M Q Qm s a w β hv h hn hp
  simp only [vc] at hv
  split at hv
  · exact hv.elim
  · rename_i ann hann
    split at hv
    · exact hv.elim
    · rename_i hs hhs
      split at hv
      · exact hv.elim
      · rename_i x₀ hx₀
        cases hc : (annOk cx.yl ann (Code.dsts c) && (entryOk s ann && keepOk s ann)) with
        | false => rw [hc] at hv; exact hv.elim
        | true =>
          rw [hc] at hv
          simp only [Bool.and_eq_true] at hc
          obtain ⟨c1, c2, c3⟩ := hc
          obtain ⟨I, m, h0, h1⟩ := hv
          have hm := shpsOf_match hhs
          obtain ⟨hd, hhd⟩ : ∃ hd : Shps hs → ASt, hd = fun x => spread (headBase cx.nt s ann (Code.dsts c)) ann.slots ann.objs hs x := ⟨_, rfl⟩
          have hnog : ∀ x, NoG (hd x) := fun x => by rw [hhd]; exact noG_spread (noG_base hn)
          obtain ⟨β₀, hr0, _⟩ := loop_head (K := K.mg M) (nt := cx.nt) (ds := Code.dsts c) hcx (hf.mg M) h hn hn c1 c2 c3 hm hx₀ h.posne (fun _ _ _ h => h) (fun _ _ _ _ _ => rfl)
          have hr0 : RelB (K.mg M) (hd x₀) a w β₀ := by rw [hhd]; exact hr0
          let S : Act → World → Nat → Prop := fun a w k => ∃ x M' β, (cx.yl = none → M' = M) ∧ I x ∧ RelB (K.mg M') (hd x) a w β ∧ m x = k
          let μ : Act → World → Nat := fun a w => Classical.epsilon (fun k => S a w k ∧ ∀ j, S a w j → k ≤ j)
          have hμ : ∀ a w, (∃ k, S a w k) → S a w (μ a w) ∧ ∀ k, S a w k → μ a w ≤ k := by
            intro a w hh
            exact Classical.epsilon_spec (exists_min hh)
          refine wpIn_loop (fun a w => ∃ k, S a w k) μ ⟨_, x₀, M, β₀, fun _ => rfl, h0, hr0, rfl⟩ ?_
          intro a1 w1 hI
          obtain ⟨⟨x, M1, β1, hM1, hx, hrel, hmx⟩, hmin⟩ := hμ a1 w1 hI
          have hb := h1 x hx
          have hb := vc_frame c _ _ (fun e s' => (match e with
              | .normal => match collect cx s' ann.slots ann.objs hs, sameObs (spread (headBase cx.nt s ann (Code.dsts c)) ann.slots ann.objs hs x) s' ann.keep with
                | some x', some l => cond (entryOk s' ann && keptOk cx.nt (Code.dsts c) (spread (headBase cx.nt s ann (Code.dsts c)) ann.slots ann.objs hs x) s') (conj l (I x' ∧ m x' < m x)) False
                | _, _ => False
              | e => Q e s') ∧ Fr (Code.dsts c) (spread (headBase cx.nt s ann (Code.dsts c)) ann.slots ann.objs hs x) s') hb (fun e s' he hfr => ⟨by cases e <;> exact he, hfr⟩)
          have hbd := hbody hrf hfx M1 _ (Exit.then (fun a' w' => (∃ k, S a' w' k) ∧ μ a' w' < μ a1 w1) Qm) _ a1 w1 β1 hb (by rw [hhd] at hrel; exact hrel) (by have := hnog x; rw [hhd] at this; exact this) ?_
          · exact hbd
          · intro M2 hM2 e s' a2 w2 β2 hq hrel2 hn2
            obtain ⟨hq, hfr⟩ := hq
            cases e with
            | normal =>
              simp only at hq
              split at hq
              · rename_i x' l hcol hsame
                cases hcc : (entryOk s' ann && keptOk cx.nt (Code.dsts c) (spread (headBase cx.nt s ann (Code.dsts c)) ann.slots ann.objs hs x) s') with
                | false => rw [hcc] at hq; exact hq.elim
                | true =>
                  rw [hcc] at hq
                  simp only [Bool.and_eq_true] at hcc
                  obtain ⟨hall, hI', hlt⟩ := conj_out hq
                  obtain ⟨β3, hr3, _⟩ := loop_head (K := K.mg M2) (nt := cx.nt) (ds := Code.dsts c) (s₀ := s) hcx (hf.mg M2) hrel2 hn2 hn c1 hcc.1 c3 hm hcol h.posne
                    (fun o ho ob hob => sameObs_eq hsame hall o ho ob (by rw [head_keep c1 hm ho]; exact hob))
                    (fun t ht1 ht2 ht3 ht4 => by
                      have e1 : (spread (headBase cx.nt s ann (Code.dsts c)) ann.slots ann.objs hs x).env t = s.env t := by
                        rw [spread_fr (annOk_slots c1) t ht1]
                        simp only [headBase]
                        have b1 : memN t (Code.dsts c) = false := by
                          cases hb : memN t (Code.dsts c) with
                          | false => rfl
                          | true => exact absurd (memN_iff.1 hb) ht1
                        have b2 : Nat.ble (t + 1) cx.nt = true := Nat.ble_eq_true_of_le ht2
                        rw [b1, ht3, b2]; rfl
                      rcases hfr t ht1 with e2 | e2
                      · rw [e2, e1]
                      · have hk := hcc.2
                        simp only [keptOk, List.all_eq_true, List.mem_range] at hk
                        have := hk t ht2
                        rw [e1, e2, ht4] at this
                        have b1 : memN t (Code.dsts c) = false := by
                          cases hb : memN t (Code.dsts c) with
                          | false => rfl
                          | true => exact absurd (memN_iff.1 hb) ht1
                        rw [b1] at this
                        cases this)
                  have hS : S a2 w2 (m x') := ⟨x', M2, β3, fun e => (hM2 e).trans (hM1 e), hI', by rw [hhd]; exact hr3, rfl⟩
                  refine ⟨⟨_, hS⟩, ?_⟩
                  have := (hμ a2 w2 ⟨_, hS⟩).2 _ hS
                  omega
              · exact hq.elim
            | _ => exact hp M2 (fun e => (hM2 e).trans (hM1 e)) _ s' a2 w2 β2 hq hrel2 hn2
end
end Go.Sx
