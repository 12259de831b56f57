/-
  Chapter 12: FadeEnds.
-/
import Derived.Test.YtjnnbmgodbhofaaFadeO3
import Derived.Test.YtjnnbmgodbhofaaFadeP6
set_option linter.all false
set_option maxRecDepth 1000000
namespace Go.Fade
open Go Go.Sx
theorem clash4 {f : Fading} : (clashV f).2 = 4 ↔ cardsB f = true ∧ (enterL noBounds (allL f)).isSome = true := by
 rw [clashV]
 cases hc : cardsB f with
 | false => exact ⟨fun h => absurd h (by show ¬ (1 : Int) = 4; omega), fun h => absurd h.1 (by decide)⟩
 | true =>
  rw [allL, enterL_append]
  cases hr : enterL noBounds (riseL f) with
  | none => exact ⟨fun h => absurd h (by show ¬ (6 : Int) = 4; omega), fun h => by have h2 : false = true := h.2; cases h2⟩
  | some b =>
   show (clashGo b (checksL f) 0).2 = 4 ↔ _ ∧ (enterL b (checksL f)).isSome = true
   rcases clashGo_spec (checksL f) b 0 with ⟨h1, h2⟩ | ⟨n, _, h1, _, _, h2⟩
   ·exact ⟨fun _ => ⟨rfl, h2⟩, fun _ => by rw [h1]⟩
   ·refine ⟨fun h => ?_, fun h => ?_⟩
    ·rw [h1] at h; exact absurd h (by show ¬ (0 : Int) = 4; omega)
    ·rw [h2] at h; exact absurd h.2 (by decide)
theorem known_iff {f : Fading} : knownV f = true ↔ cardsB f = true ∧ ∃ t, Truth f t := by
 rw [knownV, beq_iff_eq, clash4]
 constructor
 ·rintro ⟨h1, h2⟩
  obtain ⟨b, hb⟩ := Option.isSome_iff_exists.1 h2
  have O := cards_iff.1 h1
  have hI := (all_in O).2 b hb
  obtain ⟨t, ht, _⟩ := truth_of O hb (known0 f) (known0 f) (v := 0) (by rw [hI.dg 0 (by omega)]; omega) (by rw [hI.dg 0 (by omega)]; omega)
  exact ⟨h1, t, ht⟩
 ·rintro ⟨h1, t, ht⟩
  obtain ⟨b, hb, _⟩ := truth_enters (cards_iff.1 h1) ht
  exact ⟨h1, by rw [hb]; rfl⟩
theorem light_facts {f : Fading} (m : Int) : (∃ e, e ≠ 0 ∧ lightV f m = ((0, 0), e)) ∨ ∃ b, ∃ p : Nat, m = (p : Int) ∧ p ≤ f.1.length ∧ OkC f ∧ enterL noBounds (allL f) = some b ∧ Inv (known f) b ∧ lightV f m = ((-(gt b 0 p), gt b p 0), 0) := by
 by_cases h : ((openV f (inB m 0 (f.1.length : Int))).2 == 0) = true
 ·right
  obtain ⟨O, hv, b, hb, he, hI⟩ := open_ok h
  rw [inB_iff] at hv
  refine ⟨b, m.toNat, by omega, by omega, O, he, hI, ?_⟩
  rw [lightV, h]
  rw [hb]
  rfl
 ·left
  have h' : ((openV f (inB m 0 (f.1.length : Int))).2 == 0) = false := by simpa using h
  refine ⟨(openV f (inB m 0 (f.1.length : Int))).2, fun e => by rw [e] at h'; exact absurd h' (by decide), ?_⟩
  rw [lightV, h']
  rfl
theorem fast_facts {f : Fading} (what index : Int) : (∃ e, e ≠ 0 ∧ fastV f what index = ((0, 0), e)) ∨ ∃ b, ∃ p : Nat, ofV what index = (p : Int) ∧ known f p ∧ OkC f ∧ ((what = 0 ∧ 0 ≤ index ∧ index < (f.2.1.length : Int)) ∨ (what = 1 ∧ 0 ≤ index ∧ index < f.2.2.1)) ∧ enterL noBounds (allL f) = some b ∧ Inv (known f) b ∧ fastV f what index = ((-(gt b 0 p), gt b p 0), 0) := by
 by_cases h : ((openV f (thingB f what index)).2 == 0) = true
 ·right
  obtain ⟨O, hv, b, hb, he, hI⟩ := open_ok h
  have ht := (thing_iff O.ns).1 hv
  obtain ⟨p, ep, hk, _⟩ := of_known O ht
  refine ⟨b, p, ep, hk, O, ht, he, hI, ?_⟩
  rw [fastV, h]
  rw [hb, ep]
  rfl
 ·left
  have h' : ((openV f (thingB f what index)).2 == 0) = false := by simpa using h
  refine ⟨(openV f (thingB f what index)).2, fun e => by rw [e] at h'; exact absurd h' (by decide), ?_⟩
  rw [fastV, h']
  rfl
theorem getD_app1 {α : Type} (l : List α) (a d : α) {j : Nat} (h : j < l.length) : (l ++ [a]).getD j d = l.getD j d := by simp [List.getD, List.getElem?_append_left h]
theorem getD_app2 {α : Type} (l : List α) (a d : α) : (l ++ [a]).getD l.length d = a := by simp [List.getD]
theorem more_cards {f : Fading} (O : OkC f) {n : Int} (h1 : f.1.length < 12) (h2 : f.2.1.length < 8) (h3 : 0 ≤ n) (h4 : n + 1 ≤ 16777216) (h5 : f.2.2.2.length ≤ 37) : OkC (moreF f n (f.1.length : Int)) := by
 have hr := O.nr
 have hs := O.ns
 refine ⟨?_, ?_, O.ns, ?_, ?_, ?_, ?_⟩
 ·show (f.1 ++ [(1, 1)]).length ≤ 12
  rw [List.length_append]; simp only [List.length_cons, List.length_nil]; omega
 ·show (f.2.1 ++ [(n + 1, n + 1)]).length ≤ 8
  rw [List.length_append]; simp only [List.length_cons, List.length_nil]; omega
 ·show (f.2.2.2 ++ [_, _]).length ≤ 40
  rw [List.length_append]; simp only [List.length_cons, List.length_nil]; omega
 ·intro s hs
  rcases List.mem_append.1 (show s ∈ f.1 ++ [(1, 1)] from hs) with hs | hs
  ·exact O.months s hs
  ·rw [List.mem_singleton.1 hs]; simp only; omega
 ·intro s hs
  rcases List.mem_append.1 (show s ∈ f.2.1 ++ [(n + 1, n + 1)] from hs) with hs | hs
  ·exact O.refs s hs
  ·rw [List.mem_singleton.1 hs]; simp only; omega
 ·intro c hc
  have l1 : ((f.1 ++ [((1 : Int), (1 : Int))]).length : Int) = (f.1.length : Int) + 1 := by rw [List.length_append]; simp
  have l2 : ((f.2.1 ++ [(n + 1, n + 1)]).length : Int) = (f.2.1.length : Int) + 1 := by rw [List.length_append]; simp
  show (0 ≤ c.1 ∧ c.1 ≤ ((f.1 ++ [((1 : Int), (1 : Int))]).length : Int)) ∧ ((c.2.1 = 0 ∧ 0 ≤ c.2.2.1 ∧ c.2.2.1 < ((f.2.1 ++ [(n + 1, n + 1)]).length : Int)) ∨ (c.2.1 = 1 ∧ 0 ≤ c.2.2.1 ∧ c.2.2.1 < f.2.2.1))
  rw [l1, l2]
  rcases List.mem_append.1 (show c ∈ f.2.2.2 ++ [((f.1.length : Int), 0, (f.2.1.length : Int), false), ((f.1.length : Int) + 1, 0, (f.2.1.length : Int), true)] from hc) with hc | hc
  ·have := O.checks c hc
   omega
  ·simp only [List.mem_cons, List.not_mem_nil, or_false] at hc
   rcases hc with rfl | rfl
   ·exact ⟨⟨by show (0 : Int) ≤ (f.1.length : Int); omega, by show (f.1.length : Int) ≤ (f.1.length : Int) + 1; omega⟩, .inl ⟨rfl, by show (0 : Int) ≤ (f.2.1.length : Int); omega, by show (f.2.1.length : Int) < (f.2.1.length : Int) + 1; omega⟩⟩
   ·exact ⟨⟨by show (0 : Int) ≤ (f.1.length : Int) + 1; omega, by show (f.1.length : Int) + 1 ≤ (f.1.length : Int) + 1; omega⟩, .inl ⟨rfl, by show (0 : Int) ≤ (f.2.1.length : Int); omega, by show (f.2.1.length : Int) < (f.2.1.length : Int) + 1; omega⟩⟩
theorem more_truth {f : Fading} (O : OkC f) {t : Nat → Int} (ht : Truth f t) {n : Int} (hn : t f.1.length - t 0 = n) (h1 : f.1.length < 12) (h2 : f.2.1.length < 8) (hlast : 0 < f.2.1.length → (f.2.1.getD (f.2.1.length - 1) (0, 0)).2 ≤ n) :
  Truth (moreF f n (f.1.length : Int)) (fun i => if i = f.1.length + 1 then t f.1.length + 1 else if i = 13 + f.2.1.length then t 0 + n + 1 else t i) := by
 have hs := O.ns
 have l1 : (f.1 ++ [((1 : Int), (1 : Int))]).length = f.1.length + 1 := by rw [List.length_append]; simp
 have l2 : (f.2.1 ++ [(n + 1, n + 1)]).length = f.2.1.length + 1 := by rw [List.length_append]; simp
 have T1 : ∀ i, i ≤ f.1.length → (if i = f.1.length + 1 then t f.1.length + 1 else if i = 13 + f.2.1.length then t 0 + n + 1 else t i) = t i := fun i hi => by rw [if_neg (by omega), if_neg (by omega)]
 have T2 : ∀ k, k < f.2.1.length → (if 13 + k = f.1.length + 1 then t f.1.length + 1 else if 13 + k = 13 + f.2.1.length then t 0 + n + 1 else t (13 + k)) = t (13 + k) := fun k hk => by rw [if_neg (by omega), if_neg (by omega)]
 have T3 : (if 13 + f.2.1.length = f.1.length + 1 then t f.1.length + 1 else if 13 + f.2.1.length = 13 + f.2.1.length then t 0 + n + 1 else t (13 + f.2.1.length)) = t 0 + n + 1 := by rw [if_neg (by omega), if_pos rfl]
 have T4 : ∀ s, s < f.2.2.1.toNat → (if 21 + s = f.1.length + 1 then t f.1.length + 1 else if 21 + s = 13 + f.2.1.length then t 0 + n + 1 else t (21 + s)) = t (21 + s) := fun s hs => by rw [if_neg (by omega), if_neg (by omega)]
 have T5 : (if f.1.length + 1 = f.1.length + 1 then t f.1.length + 1 else if f.1.length + 1 = 13 + f.2.1.length then t 0 + n + 1 else t (f.1.length + 1)) = t f.1.length + 1 := if_pos rfl
 refine ⟨fun j hj => ?_, fun k hk => ?_, fun k hk => ?_, fun s hs' => ?_, fun c hc => ?_⟩
 ·have hj : j < (f.1 ++ [((1 : Int), (1 : Int))]).length := hj
  rw [l1] at hj
  show ((f.1 ++ [(1, 1)]).getD j (0, 0)).1 ≤ _ ∧ _ ≤ ((f.1 ++ [(1, 1)]).getD j (0, 0)).2
  try simp only
  rw [T1 j (by omega)]
  by_cases e : j = f.1.length
  ·subst e
   rw [getD_app2, T5]
   simp only; omega
  ·rw [getD_app1 _ _ _ (by omega), T1 (j + 1) (by omega)]
   exact ht.months j (by omega)
 ·have hk : k < (f.2.1 ++ [(n + 1, n + 1)]).length := hk
  rw [l2] at hk
  show ((f.2.1 ++ [(n + 1, n + 1)]).getD k (0, 0)).1 ≤ _ ∧ _ ≤ ((f.2.1 ++ [(n + 1, n + 1)]).getD k (0, 0)).2
  try simp only
  rw [T1 0 (by omega)]
  by_cases e : k = f.2.1.length
  ·subst e
   rw [getD_app2, T3]
   simp only; omega
  ·rw [getD_app1 _ _ _ (by omega), T2 k (by omega)]
   exact ht.refs k (by omega)
 ·have hk : k + 1 < (f.2.1 ++ [(n + 1, n + 1)]).length := hk
  rw [l2] at hk
  try simp only
  rw [T2 k (by omega)]
  by_cases e : k + 1 = f.2.1.length
  ·rw [e, T3]
   have h3 := (ht.refs k (by omega)).2
   have h4 := hlast (by omega)
   rw [show f.2.1.length - 1 = k by omega] at h4
   omega
  ·rw [T2 (k + 1) (by omega)]
   exact ht.more k (by omega)
 ·try simp only
  rw [T1 0 (by omega), T4 s hs']
  exact ht.samples s hs'
 ·rcases List.mem_append.1 (show c ∈ f.2.2.2 ++ [((f.1.length : Int), 0, (f.2.1.length : Int), false), ((f.1.length : Int) + 1, 0, (f.2.1.length : Int), true)] from hc) with hc | hc
  ·have hv := O.checks c hc
   have h0 := ht.checks c hc
   have a1 : (if c.1.toNat = f.1.length + 1 then t f.1.length + 1 else if c.1.toNat = 13 + f.2.1.length then t 0 + n + 1 else t c.1.toNat) = t c.1.toNat := T1 _ (by omega)
   have a2 : (if ptOf c.2.1 c.2.2.1 = f.1.length + 1 then t f.1.length + 1 else if ptOf c.2.1 c.2.2.1 = 13 + f.2.1.length then t 0 + n + 1 else t (ptOf c.2.1 c.2.2.1)) = t (ptOf c.2.1 c.2.2.1) := by
    rcases hv.2 with ⟨e, g1, g2⟩ | ⟨e, g1, g2⟩
    ·have e2 : ptOf c.2.1 c.2.2.1 = 13 + c.2.2.1.toNat := by
      rw [ptOf, e]; show (13 + c.2.2.1).toNat = _; omega
     rw [e2]; exact T2 _ (by omega)
    ·have e2 : ptOf c.2.1 c.2.2.1 = 21 + c.2.2.1.toNat := by
      rw [ptOf, e]; show (21 + c.2.2.1).toNat = _; omega
     rw [e2]; exact T4 _ (by omega)
   try simp only
   rw [a1, a2]
   exact h0
  ·have p1 : ptOf 0 (f.2.1.length : Int) = 13 + f.2.1.length := by
    rw [ptOf]; show (13 + (f.2.1.length : Int)).toNat = _; omega
   simp only [List.mem_cons, List.not_mem_nil, or_false] at hc
   rcases hc with rfl | rfl
   ·simp only [cond_false]
    rw [p1, T3, show ((f.1.length : Int)).toNat = f.1.length by omega, T1 _ (Nat.le_refl _)]
    omega
   ·simp only [cond_true]
    rw [p1, T3, show ((f.1.length : Int) + 1).toNat = f.1.length + 1 by omega, T5]
    omega
theorem ends2 {f : Fading} (O : OkC f) {b : Bds} (hb : enterL noBounds (allL f) = some b) (h1 : f.1.length < 12) (h5 : f.2.2.2.length ≤ 37) {v : Int} (hv1 : -(gt b 0 f.1.length) ≤ v) (hv2 : v ≤ gt b f.1.length 0) :
  law12u_FadeEnds_2 (v, f, (f.1.length : Int), ⟨law12u_FadeEnds_1u_p, law12u_FadeEnds_1⟩) = true := by
 show cond (moreB f v) true (knownV (moreF f v (f.1.length : Int))) = true
 cases hm : moreB f v with
 | true => rfl
 | false =>
  rw [cond_false]
  simp only [moreB, Bool.or_eq_false_iff, decide_eq_false_iff_not] at hm
  obtain ⟨⟨⟨m1, m2⟩, m3⟩, m4⟩ := hm
  have hk : known f f.1.length := by unfold known withAll; omega
  obtain ⟨t, ht, hd⟩ := truth_of O hb hk (known0 f) hv1 hv2
  refine known_iff.2 ⟨cards_iff.2 (more_cards O h1 (by omega) (by omega) (by omega) h5), _, more_truth O ht hd h1 (by omega) fun hpos => ?_⟩
  rw [decide_eq_true (show (0 : Int) < (f.2.1.length : Int) by omega), Bool.true_and, decide_eq_false_iff_not] at m4
  rw [show Int.toNat ((f.2.1.length : Int) - 1) = f.2.1.length - 1 by omega] at m4
  omega
theorem getD_set {α : Type} (l : List α) (a d : α) {i j : Nat} (hi : i < l.length) : (l.set i a).getD j d = if j = i then a else l.getD j d := by
 by_cases e : j = i
 ·subst e; simp [List.getD, hi]
 ·simp [List.getD, List.getElem?_set, Ne.symm e, e]
theorem with_cards {f : Fading} (O : OkC f) {n : Int} {k : Nat} (h1 : 1 ≤ n) (h2 : n ≤ 16777216) : OkC (withF f n (k : Int)) := by
 refine ⟨O.nm, ?_, O.ns, O.nc, O.months, ?_, fun c hc => ?_⟩
 ·show (f.2.1.set _ _).length ≤ 8
  rw [List.length_set]; exact O.nr
 ·intro s hs
  rcases List.mem_or_eq_of_mem_set (show s ∈ f.2.1.set _ (n, n) from hs) with hs | hs
  ·exact O.refs s hs
  ·rw [hs]; simp only; omega
 ·have := O.checks c hc
  have l2 : ((f.2.1.set (k : Int).toNat (n, n)).length : Int) = (f.2.1.length : Int) := by rw [List.length_set]
  show (0 ≤ c.1 ∧ c.1 ≤ (f.1.length : Int)) ∧ ((c.2.1 = 0 ∧ 0 ≤ c.2.2.1 ∧ c.2.2.1 < ((f.2.1.set (k : Int).toNat (n, n)).length : Int)) ∨ (c.2.1 = 1 ∧ 0 ≤ c.2.2.1 ∧ c.2.2.1 < f.2.2.1))
  rw [l2]; exact this
theorem with_truth {f : Fading} {t : Nat → Int} {n : Int} {k : Nat} (hk : k < f.2.1.length) (hn : (f.2.1.getD k (0, 0)).1 ≤ n ∧ n ≤ (f.2.1.getD k (0, 0)).2) : Truth (withF f n (k : Int)) t ↔ Truth f t ∧ t (13 + k) - t 0 = n := by
 have hl : (f.2.1.set k (n, n)).length = f.2.1.length := List.length_set
 constructor
 ·intro h
  have hk' := h.refs k (show k < (f.2.1.set k (n, n)).length by rw [hl]; exact hk)
  have e0 : ((withF f n (k : Int)).2.1.getD k (0, 0)) = (n, n) := by
   show (f.2.1.set k (n, n)).getD k (0, 0) = _
   rw [getD_set _ _ _ hk, if_pos rfl]
  rw [e0] at hk'
  simp only at hk'
  refine ⟨⟨h.months, fun j hj => ?_, fun j hj => ?_, h.samples, h.checks⟩, by omega⟩
  ·have := h.refs j (show j < (f.2.1.set k (n, n)).length by rw [hl]; exact hj)
   have e1 : ((withF f n (k : Int)).2.1.getD j (0, 0)) = if j = k then (n, n) else f.2.1.getD j (0, 0) := getD_set _ _ _ hk
   rw [e1] at this
   by_cases e : j = k
   ·subst e; rw [if_pos rfl] at this; simp only at this; omega
   ·rw [if_neg e] at this; exact this
  ·exact h.more j (show j + 1 < (f.2.1.set k (n, n)).length by rw [hl]; exact hj)
 ·rintro ⟨h, hd⟩
  refine ⟨h.months, fun j hj => ?_, fun j hj => ?_, h.samples, h.checks⟩
  ·have hj : j < f.2.1.length := by
    have hj : j < (f.2.1.set k (n, n)).length := hj
    rw [hl] at hj; exact hj
   have e1 : ((withF f n (k : Int)).2.1.getD j (0, 0)) = if j = k then (n, n) else f.2.1.getD j (0, 0) := getD_set _ _ _ hk
   rw [e1]
   by_cases e : j = k
   ·subst e; rw [if_pos rfl]; simp only; omega
   ·rw [if_neg e]; exact h.refs j hj
  ·have hj : j + 1 < (f.2.1.set k (n, n)).length := hj
   rw [hl] at hj
   exact h.more j hj
theorem ref_ends {f : Fading} (O : OkC f) {b : Bds} (hb : enterL noBounds (allL f) = some b) {k : Nat} (hk : k < f.2.1.length) :
  (f.2.1.getD k (0, 0)).1 ≤ -(gt b 0 (13 + k)) ∧ gt b (13 + k) 0 ≤ (f.2.1.getD k (0, 0)).2 ∧ -(gt b 0 (13 + k)) ≤ gt b (13 + k) 0 := by
 have hI := (all_in O).2 b hb
 have kk := ref_known hk
 have le : -(gt b 0 (13 + k)) ≤ gt b (13 + k) 0 := by
  have := hI.tri 0 (13 + k) 0 (known0 f) kk (known0 f)
  have := hI.dg 0 (by omega)
  omega
 obtain ⟨t, ht, h1⟩ := truth_of O hb kk (known0 f) (v := gt b (13 + k) 0) le (Int.le_refl _)
 obtain ⟨u, hu, h2⟩ := truth_of O hb kk (known0 f) (v := -(gt b 0 (13 + k))) (Int.le_refl _) le
 have := ht.refs k hk
 have := hu.refs k hk
 omega
theorem ends3 {f : Fading} (O : OkC f) {b : Bds} (hb : enterL noBounds (allL f) = some b) {k : Nat} (hk : k < f.2.1.length) {v : Int} (hv : (f.2.1.getD k (0, 0)).1 ≤ v ∧ v ≤ (f.2.1.getD k (0, 0)).2) :
  law12u_FadeEnds_3 (v, f, (k : Int), ⟨law12u_FadeEnds_1u_p, law12u_FadeEnds_1⟩) = true ↔ -(gt b 0 (13 + k)) ≤ v ∧ v ≤ gt b (13 + k) 0 := by
 show knownV (withF f v (k : Int)) = true ↔ _
 have ho := O.refs _ (getD_mem f.2.1 (0, 0) k hk)
 have hI := (all_in O).2 b hb
 rw [known_iff]
 constructor
 ·rintro ⟨_, t, ht⟩
  obtain ⟨h1, h2⟩ := (with_truth hk hv).1 ht
  obtain ⟨b', hb', h3⟩ := truth_enters O h1
  rw [hb] at hb'; cases hb'
  have a1 := h3 (13 + k) 0 (ref_known hk) (known0 f)
  have a2 := h3 0 (13 + k) (known0 f) (ref_known hk)
  omega
 ·rintro ⟨h1, h2⟩
  obtain ⟨t, ht, hd⟩ := truth_of O hb (ref_known hk) (known0 f) h1 h2
  exact ⟨cards_iff.2 (with_cards O (by omega) (by omega)), t, (with_truth hk hv).2 ⟨ht, hd⟩⟩
end Go.Fade
