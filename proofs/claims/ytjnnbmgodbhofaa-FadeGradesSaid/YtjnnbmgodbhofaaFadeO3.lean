/-
  Chapter 12: rules can be entered just if a truth fits them; bounds are the ends of truths. Plain Lean.
-/
import Derived.Test.YtjnnbmgodbhofaaFadeO2
set_option linter.all false
set_option maxRecDepth 100000
namespace Go.Fade
open Go Go.Sx
def Sol (L : List Rule) (t : Nat → Int) : Prop := ∀ r ∈ L, t r.1.toNat - t r.2.1.toNat ≤ r.2.2
def In27 (r : Rule) : Prop := (0 ≤ r.1 ∧ r.1 < 27) ∧ 0 ≤ r.2.1 ∧ r.2.1 < 27
def Abv (t : Nat → Int) (b : Bds) : Prop := ∀ i k, i < 27 → k < 27 → t i - t k ≤ gt b i k
theorem gt_putR {b : Bds} {r : Rule} {i k : Nat} (hi : i < 27) (hk : k < 27) : gt (putR b r) i k = if gt b r.1.toNat r.2.1.toNat ≤ r.2.2 then gt b i k else newAt b r.1.toNat r.2.1.toNat r.2.2 i k := by
 simp only [putR, Bool.cond_eq_ite, decide_eq_true_eq]
 split
 ·rfl
 ·exact gt_table _ hi hk
theorem okR_iff' {b : Bds} {r : Rule} : okR b r = true ↔ 0 ≤ gt b r.2.1.toNat r.1.toNat + r.2.2 := by
 simp only [okR, Bool.not_eq_true', decide_eq_false_iff_not]
 omega
theorem sound : ∀ {L : List Rule} {b : Bds} {t : Nat → Int}, (∀ r ∈ L, In27 r) → Sol L t → Abv t b → ∃ b', enterL b L = some b' ∧ Abv t b'
 | [], b, t, _, _, h => ⟨b, rfl, h⟩
 | r :: l, b, t, hin, hs, h => by
  obtain ⟨h1, h2⟩ := hin r List.mem_cons_self
  have hr := hs r List.mem_cons_self
  have ha : r.1.toNat < 27 := by omega
  have hc : r.2.1.toNat < 27 := by omega
  have hca := h _ _ hc ha
  have ok : okR b r = true := okR_iff'.2 (by omega)
  have hput : Abv t (putR b r) := by
   intro i k hi hk
   rw [gt_putR hi hk]
   have hik := h i k hi hk
   split
   ·exact hik
   ·unfold newAt
    have h3 := h i _ hi ha
    have h4 := h _ k hc hk
    cases decide (gt b i r.1.toNat < free) && decide (gt b r.2.1.toNat k < free) with
    | false => exact hik
    | true => simp only [cond_true]; omega
  obtain ⟨b', h5, h6⟩ := sound (L := l) (fun r hr => hin r (List.mem_cons_of_mem _ hr)) (fun r hr => hs r (List.mem_cons_of_mem _ hr)) hput
  exact ⟨b', by rw [enterL, ok]; exact h5, h6⟩
theorem put_mono (b : Bds) (r : Rule) {i k : Nat} (hi : i < 27) (hk : k < 27) : gt (putR b r) i k ≤ gt b i k := by
 rw [gt_putR hi hk]
 split
 ·exact Int.le_refl _
 ·unfold newAt
  cases decide (gt b i r.1.toNat < free) && decide (gt b r.2.1.toNat k < free) with
  | false => exact Int.le_refl _
  | true => simp only [cond_true]; omega
theorem enter_mono : ∀ {L : List Rule} {b b' : Bds}, enterL b L = some b' → ∀ i k, i < 27 → k < 27 → gt b' i k ≤ gt b i k
 | [], b, b', h, _, _, _, _ => by cases h; exact Int.le_refl _
 | r :: l, b, b', h, i, k, hi, hk => by
  rw [enterL, Bool.cond_eq_ite] at h
  split at h
  ·exact Int.le_trans (enter_mono h i k hi hk) (put_mono b r hi hk)
  ·cases h
theorem entered_all : ∀ {L : List Rule} {b b' : Bds}, (∀ i, i < 27 → gt b i i ≤ 0) → (∀ r ∈ L, In27 r) → enterL b L = some b' → ∀ r ∈ L, gt b' r.1.toNat r.2.1.toNat ≤ r.2.2
 | [], _, _, _, _, _, r, hr => by cases hr
 | r :: l, b, b', hd, hin, he, r', hr' => by
  rw [enterL, Bool.cond_eq_ite] at he
  split at he
  ·obtain ⟨h1, h2⟩ := hin r List.mem_cons_self
   have ha : r.1.toNat < 27 := by omega
   have hc : r.2.1.toNat < 27 := by omega
   have hd' : ∀ i, i < 27 → gt (putR b r) i i ≤ 0 := fun i hi => Int.le_trans (put_mono b r hi hi) (hd i hi)
   rcases List.mem_cons.1 hr' with rfl | hr'
   ·refine Int.le_trans (enter_mono he _ _ ha hc) ?_
    rw [gt_putR ha hc]
    split
    ·assumption
    ·have := hd _ ha
     have := hd _ hc
     rw [newAt_in (by simp only [free]; omega) (by simp only [free]; omega)]
     omega
   ·exact entered_all hd' (fun r hr => hin r (List.mem_cons_of_mem _ hr)) he r' hr'
  ·cases he
theorem mem_months {r : Rule} : ∀ {l : List Span} {i : Int}, r ∈ monthsL l i ↔ ∃ j : Nat, j < l.length ∧ (r = (i + (j : Int) + 1, i + (j : Int), (l.getD j (0, 0)).2) ∨ r = (i + (j : Int), i + (j : Int) + 1, -(l.getD j (0, 0)).1))
 | [], i => by
  simp only [monthsL, List.not_mem_nil, List.length_nil, false_iff]
  rintro ⟨j, h, _⟩
  omega
 | s :: l, i => by
  rw [monthsL, List.mem_cons, List.mem_cons, mem_months]
  constructor
  ·rintro (h | h | ⟨j, h1, h2⟩)
   ·exact ⟨0, Nat.succ_pos _, .inl (by rw [h]; simp)⟩
   ·exact ⟨0, Nat.succ_pos _, .inr (by rw [h]; simp)⟩
   ·refine ⟨j + 1, Nat.succ_lt_succ h1, ?_⟩
    rw [List.getD_cons_succ, show i + ((j + 1 : Nat) : Int) = i + 1 + (j : Int) by omega]
    exact h2
  ·rintro ⟨j, h1, h2⟩
   cases j with
   | zero =>
    rcases h2 with h2 | h2
    ·exact .inl (by rw [h2]; simp)
    ·exact .inr (.inl (by rw [h2]; simp))
   | succ j =>
    rw [List.getD_cons_succ, show i + ((j + 1 : Nat) : Int) = i + 1 + (j : Int) by omega] at h2
    exact .inr (.inr ⟨j, Nat.lt_of_succ_lt_succ h1, h2⟩)
theorem mem_refs {r : Rule} : ∀ {l : List Span} {k : Nat}, r ∈ refsL l k ↔ ∃ j : Nat, j < l.length ∧ (r = (13 + ((k + j : Nat) : Int), 0, (l.getD j (0, 0)).2) ∨ r = (0, 13 + ((k + j : Nat) : Int), -(l.getD j (0, 0)).1) ∨ (0 < k + j ∧ r = (13 + (((k + j : Nat) : Int) - 1), 13 + ((k + j : Nat) : Int), -1)))
 | [], k => by
  simp only [refsL, List.not_mem_nil, List.length_nil, false_iff]
  rintro ⟨j, h, _⟩
  omega
 | s :: l, k => by
  have ih := mem_refs (r := r) (l := l) (k := k + 1)
  rw [show ((k + 1 : Nat) : Int) = (k : Int) + 1 by omega] at ih
  rw [refsL, List.mem_cons, List.mem_cons, List.mem_append, ih]
  constructor
  ·rintro (h | h | h | ⟨j, h1, h2⟩)
   ·exact ⟨0, Nat.succ_pos _, .inl (by rw [h]; simp)⟩
   ·exact ⟨0, Nat.succ_pos _, .inr (.inl (by rw [h]; simp))⟩
   ·cases hk : decide (0 < (k : Int)) with
    | false => rw [hk] at h; cases h
    | true =>
     rw [hk] at h
     have hk := of_decide_eq_true hk
     refine ⟨0, Nat.succ_pos _, .inr (.inr ⟨by omega, ?_⟩)⟩
     rw [List.mem_singleton.1 h]; simp
   ·refine ⟨j + 1, Nat.succ_lt_succ h1, ?_⟩
    rw [List.getD_cons_succ, show k + (j + 1) = k + 1 + j by omega]
    exact h2
  ·rintro ⟨j, h1, h2⟩
   cases j with
   | zero =>
    rcases h2 with h2 | h2 | ⟨h3, h2⟩
    ·exact .inl (by rw [h2]; simp)
    ·exact .inr (.inl (by rw [h2]; simp))
    ·refine .inr (.inr (.inl ?_))
     rw [decide_eq_true (show 0 < (k : Int) by omega), cond_true, List.mem_singleton, h2]
     simp
   | succ j =>
    rw [List.getD_cons_succ, show k + (j + 1) = k + 1 + j by omega] at h2
    exact .inr (.inr (.inr ⟨j, Nat.lt_of_succ_lt_succ h1, h2⟩))
theorem mem_samples {r : Rule} : ∀ {n k : Nat}, r ∈ samplesL n k ↔ ∃ j : Nat, j < n ∧ (r = (21 + ((k + j : Nat) : Int), 0, 16777216) ∨ r = (0, 21 + ((k + j : Nat) : Int), -1))
 | 0, k => by
  simp only [samplesL, List.not_mem_nil, false_iff]
  rintro ⟨j, h, _⟩
  omega
 | n + 1, k => by
  have ih := mem_samples (r := r) (n := n) (k := k + 1)
  rw [show ((k + 1 : Nat) : Int) = (k : Int) + 1 by omega] at ih
  rw [samplesL, List.mem_cons, List.mem_cons, ih]
  constructor
  ·rintro (h | h | ⟨j, h1, h2⟩)
   ·exact ⟨0, Nat.succ_pos _, .inl (by rw [h]; simp)⟩
   ·exact ⟨0, Nat.succ_pos _, .inr (by rw [h]; simp)⟩
   ·refine ⟨j + 1, Nat.succ_lt_succ h1, ?_⟩
    rw [show k + (j + 1) = k + 1 + j by omega]
    exact h2
  ·rintro ⟨j, h1, h2⟩
   cases j with
   | zero =>
    rcases h2 with h2 | h2
    ·exact .inl (by rw [h2]; simp)
    ·exact .inr (.inl (by rw [h2]; simp))
   | succ j =>
    rw [show k + (j + 1) = k + 1 + j by omega] at h2
    exact .inr (.inr ⟨j, Nat.lt_of_succ_lt_succ h1, h2⟩)
def ptOf (what index : Int) : Nat := (ofV what index).toNat
structure Truth (f : Fading) (t : Nat → Int) : Prop where
 months : ∀ j, j < f.1.length → (f.1.getD j (0, 0)).1 ≤ t (j + 1) - t j ∧ t (j + 1) - t j ≤ (f.1.getD j (0, 0)).2
 refs : ∀ k, k < f.2.1.length → (f.2.1.getD k (0, 0)).1 ≤ t (13 + k) - t 0 ∧ t (13 + k) - t 0 ≤ (f.2.1.getD k (0, 0)).2
 more : ∀ k, k + 1 < f.2.1.length → t (13 + k) + 1 ≤ t (13 + (k + 1))
 samples : ∀ s, s < f.2.2.1.toNat → 1 ≤ t (21 + s) - t 0 ∧ t (21 + s) - t 0 ≤ 16777216
 checks : ∀ c ∈ f.2.2.2, cond c.2.2.2 (t (ptOf c.2.1 c.2.2.1) ≤ t c.1.toNat) (t c.1.toNat + 1 ≤ t (ptOf c.2.1 c.2.2.1))
theorem truth_iff {f : Fading} {t : Nat → Int} : Sol (allL f) t ↔ Truth f t := by
 have e1 : ∀ n : Nat, (13 + (n : Int)).toNat = 13 + n := fun n => by omega
 have e2 : ∀ n : Nat, (21 + (n : Int)).toNat = 21 + n := fun n => by omega
 constructor
 ·intro h
  have hm : ∀ r ∈ monthsL f.1 0, t r.1.toNat - t r.2.1.toNat ≤ r.2.2 := fun r hr => h r (List.mem_append.2 (.inl (List.mem_append.2 (.inl hr))))
  have hr : ∀ r ∈ refsL f.2.1 0, t r.1.toNat - t r.2.1.toNat ≤ r.2.2 := fun r hr => h r (List.mem_append.2 (.inl (List.mem_append.2 (.inr (List.mem_append.2 (.inl hr))))))
  have hs : ∀ r ∈ samplesL f.2.2.1.toNat 0, t r.1.toNat - t r.2.1.toNat ≤ r.2.2 := fun r hr => h r (List.mem_append.2 (.inl (List.mem_append.2 (.inr (List.mem_append.2 (.inr hr))))))
  have hc : ∀ r ∈ checksL f, t r.1.toNat - t r.2.1.toNat ≤ r.2.2 := fun r hr => h r (List.mem_append.2 (.inr hr))
  refine ⟨fun j hj => ?_, fun k hk => ?_, fun k hk => ?_, fun s hs' => ?_, fun c hc' => ?_⟩
  ·have a1 := hm _ (mem_months.2 ⟨j, hj, .inl rfl⟩)
   have a2 := hm _ (mem_months.2 ⟨j, hj, .inr rfl⟩)
   simp only [show ((0 : Int) + (j : Int) + 1).toNat = j + 1 by omega, show ((0 : Int) + (j : Int)).toNat = j by omega] at a1 a2
   omega
  ·have a1 := hr _ (mem_refs (k := 0).2 ⟨k, hk, .inl rfl⟩)
   have a2 := hr _ (mem_refs (k := 0).2 ⟨k, hk, .inr (.inl rfl)⟩)
   simp only [e1, Nat.zero_add, Int.toNat_zero] at a1 a2
   omega
  ·have a1 := hr _ (mem_refs (k := 0).2 ⟨k + 1, hk, .inr (.inr ⟨by omega, rfl⟩)⟩)
   simp only [e1, Nat.zero_add, show (13 + (((k + 1 : Nat) : Int) - 1)).toNat = 13 + k by omega] at a1
   omega
  ·have a1 := hs _ (mem_samples (k := 0).2 ⟨s, hs', .inl rfl⟩)
   have a2 := hs _ (mem_samples (k := 0).2 ⟨s, hs', .inr rfl⟩)
   simp only [e2, Nat.zero_add, Int.toNat_zero] at a1 a2
   omega
  ·have a1 := hc (ruleOf c) (List.mem_map_of_mem hc')
   unfold ruleOf at a1
   unfold ptOf
   cases hf : c.2.2.2 with
   | true => rw [hf] at a1; simp only [cond_true] at a1 ⊢; omega
   | false => rw [hf] at a1; simp only [cond_false] at a1 ⊢; omega
 ·intro h r hr
  rcases List.mem_append.1 hr with hr | hr
  ·rcases List.mem_append.1 hr with hr | hr
   ·obtain ⟨j, hj, hh⟩ := mem_months.1 hr
    have := h.months j hj
    rcases hh with rfl | rfl
    ·simp only [show ((0 : Int) + (j : Int) + 1).toNat = j + 1 by omega, show ((0 : Int) + (j : Int)).toNat = j by omega]
     omega
    ·simp only [show ((0 : Int) + (j : Int) + 1).toNat = j + 1 by omega, show ((0 : Int) + (j : Int)).toNat = j by omega]
     omega
   ·rcases List.mem_append.1 hr with hr | hr
    ·obtain ⟨k, hk, hh⟩ := mem_refs (k := 0).1 hr
     have := h.refs k hk
     rcases hh with rfl | rfl | ⟨h0, rfl⟩
     ·simp only [e1, Nat.zero_add, Int.toNat_zero]; omega
     ·simp only [e1, Nat.zero_add, Int.toNat_zero]; omega
     ·have h2 := h.more (k - 1) (by omega)
      rw [show k - 1 + 1 = k by omega] at h2
      simp only [e1, Nat.zero_add, show (13 + ((k : Int) - 1)).toNat = 13 + (k - 1) by omega]
      omega
    ·obtain ⟨s, hs, hh⟩ := mem_samples (k := 0).1 hr
     have := h.samples s hs
     rcases hh with rfl | rfl
     ·simp only [e2, Nat.zero_add, Int.toNat_zero]; omega
     ·simp only [e2, Nat.zero_add, Int.toNat_zero]; omega
  ·obtain ⟨c, hc, rfl⟩ := List.mem_map.1 hr
   have := h.checks c hc
   unfold ruleOf
   unfold ptOf at this
   cases hf : c.2.2.2 with
   | true => rw [hf] at this; simp only [cond_true] at this ⊢; omega
   | false => rw [hf] at this; simp only [cond_false] at this ⊢; omega
theorem rise_among {f : Fading} (h : OkC f) : ∀ r ∈ riseL f, Among (known f) r := by
 have hm := h.nm
 have hr' := h.nr
 have hs' := h.ns
 intro r hr
 rcases List.mem_append.1 hr with hr | hr
 ·obtain ⟨j, hj, hh⟩ := mem_months.1 hr
  have hv := h.months _ (getD_mem f.1 (0, 0) j hj)
  rcases hh with rfl | rfl
  ·exact ⟨j + 1, j, by simp only [Prod.mk.injEq, and_true]; omega, by unfold known withAll; omega, by unfold known withAll; omega, by simp only; omega, by simp only; omega⟩
  ·exact ⟨j, j + 1, by simp only [Prod.mk.injEq, and_true]; omega, by unfold known withAll; omega, by unfold known withAll; omega, by simp only; omega, by simp only; omega⟩
 ·rcases List.mem_append.1 hr with hr | hr
  ·obtain ⟨k, hk, hh⟩ := mem_refs (k := 0).1 hr
   have hv := h.refs _ (getD_mem f.2.1 (0, 0) k hk)
   rcases hh with rfl | rfl | ⟨h0, rfl⟩
   ·exact ⟨13 + k, 0, by simp only [Prod.mk.injEq, and_true]; omega, by unfold known withAll; omega, by unfold known withAll; omega, by simp only; omega, by simp only; omega⟩
   ·exact ⟨0, 13 + k, by simp only [Prod.mk.injEq, and_true]; omega, by unfold known withAll; omega, by unfold known withAll; omega, by simp only; omega, by simp only; omega⟩
   ·exact ⟨13 + (k - 1), 13 + k, by simp only [Prod.mk.injEq, and_true]; omega, by unfold known withAll; omega, by unfold known withAll; omega, by simp only; omega, by simp only; omega⟩
  ·obtain ⟨s, hs, hh⟩ := mem_samples (k := 0).1 hr
   rcases hh with rfl | rfl
   ·exact ⟨21 + s, 0, by simp only [Prod.mk.injEq, and_true]; omega, by unfold known withAll; omega, by unfold known withAll; omega, by simp only; omega, by simp only; omega⟩
   ·exact ⟨0, 21 + s, by simp only [Prod.mk.injEq, and_true]; omega, by unfold known withAll; omega, by unfold known withAll; omega, by simp only; omega, by simp only; omega⟩
theorem all_among {f : Fading} (h : OkC f) : ∀ r ∈ allL f, Among (known f) r := by
 intro r hr
 rcases List.mem_append.1 hr with hr | hr
 ·exact rise_among h r hr
 ·exact checks_among h r hr
theorem among27 {f : Fading} (h : OkC f) {r : Rule} (hr : Among (known f) r) : In27 r := by
 have := hr.ok fun i hi => known_lt h hi
 exact ⟨this.1, this.2.1⟩
theorem truth_bd {f : Fading} {t : Nat → Int} (h : OkC f) (ht : Truth f t) {i : Nat} (hi : known f i) : 0 ≤ t i - t 0 ∧ t i - t 0 ≤ 16777216 := by
 have hm := h.nm
 have mon : ∀ j, j ≤ f.1.length → 0 ≤ t j - t 0 ∧ t j - t 0 ≤ 1000000 * (j : Int) := by
  intro j
  induction j with
  | zero => intro _; omega
  | succ j ih =>
   intro hj
   have h1 := ih (by omega)
   have h2 := ht.months j (by omega)
   have h3 := h.months _ (getD_mem f.1 (0, 0) j (by omega))
   omega
 rcases hi with hi | ⟨h1, h2⟩ | ⟨h1, h2⟩
 ·have := mon i hi
  omega
 ·have h3 := ht.refs (i - 13) (by omega)
  have h4 := h.refs _ (getD_mem f.2.1 (0, 0) (i - 13) (by omega))
  rw [show 13 + (i - 13) = i by omega] at h3
  omega
 ·have h3 := ht.samples (i - 21) (by omega)
  rw [show 21 + (i - 21) = i by omega] at h3
  omega
theorem truth_enters {f : Fading} {t : Nat → Int} (h : OkC f) (ht : Truth f t) : ∃ b, enterL noBounds (allL f) = some b ∧ ∀ i k, known f i → known f k → t i - t k ≤ gt b i k := by
 classical
 obtain ⟨u, hu⟩ : ∃ u : Nat → Int, u = fun i => if known f i then t i else t 0 := ⟨_, rfl⟩
 have uk : ∀ i, known f i → u i = t i := fun i hi => by rw [hu]; simp [hi]
 have ub : ∀ i, 0 ≤ u i - t 0 ∧ u i - t 0 ≤ 16777216 := by
  intro i
  by_cases hi : known f i
  ·rw [uk i hi]; exact truth_bd h ht hi
  ·rw [hu]; simp only [hi, if_false]; omega
 have hsol : Sol (allL f) u := by
  intro r hr
  have h0 := truth_iff.2 ht r hr
  obtain ⟨a, c, e, ha, hc, _⟩ := all_among h r hr
  rw [e] at h0 ⊢
  simp only [Int.toNat_natCast] at h0 ⊢
  rw [uk a ha, uk c hc]
  exact h0
 have habv : Abv u noBounds := by
  intro i k hi hk
  rw [show gt noBounds i k = cond (Nat.beq i k) 0 free from gt_table _ hi hk]
  cases hb : Nat.beq i k with
  | true => rw [Nat.eq_of_beq_eq_true hb, cond_true]; omega
  | false =>
   have := ub i
   have := ub k
   simp only [cond_false, free]; omega
 obtain ⟨b, h1, h2⟩ := sound (fun r hr => among27 h (all_among h r hr)) hsol habv
 refine ⟨b, h1, fun i k hi hk => ?_⟩
 have := h2 i k (known_lt h hi) (known_lt h hk)
 rw [uk i hi, uk k hk] at this
 exact this
theorem truth_of {f : Fading} {b : Bds} (h : OkC f) (hb : enterL noBounds (allL f) = some b) {p q : Nat} (hp : known f p) (hq : known f q) {v : Int} (h1 : -(gt b q p) ≤ v) (h2 : v ≤ gt b p q) : ∃ t, Truth f t ∧ t p - t q = v := by
 have hI := (all_in h).2 b hb
 have hd : ∀ i, i < 27 → gt noBounds i i ≤ 0 := fun i hi => by rw [noBounds_in.dg i hi]; omega
 have hent := entered_all hd (fun r hr => among27 h (all_among h r hr)) hb
 refine ⟨fun i => min (gt b i q) (gt b i p + v), truth_iff.1 fun r hr => ?_, ?_⟩
 ·have h0 := hent r hr
  obtain ⟨a, c, e, ha, hc, _⟩ := all_among h r hr
  rw [e] at h0 ⊢
  simp only [Int.toNat_natCast] at h0 ⊢
  have t1 := hI.tri a c q ha hc hq
  have t2 := hI.tri a c p ha hc hp
  omega
 ·have d1 := hI.dg p (known_lt h hp)
  have d2 := hI.dg q (known_lt h hq)
  simp only
  rw [d1, d2]
  omega
end Go.Fade
