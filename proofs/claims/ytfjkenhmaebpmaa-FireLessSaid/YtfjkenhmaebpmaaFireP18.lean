/-
  Chapter 3: what Plan returns, and what it returns if less is asked for.
-/
import Derived.Test.YtfjkenhmaebpmaaFireP17
import Derived.Test.YtfjkenhmaebpmaaFireAuto5
set_option linter.all false
set_option maxRecDepth 100000
set_option linter.unusedVariables false
namespace Go.Fire
open Go Go.Sx
theorem tabs_ok5 : TabsOk Go.Proofs.Try.prog T5 := by
 refine ⟨by kernel_rfl, fun p hp => ?_⟩
 simp only [T5, List.mem_cons, List.not_mem_nil, or_false] at hp
 rcases hp with rfl | rfl <;>
  exact ⟨by kernel_rfl, deep_keyed (by kernel_rfl) (of_decide_eq_true (by kernel_rfl)) (by kernel_rfl) (by kernel_rfl), by kernel_rfl⟩
theorem mem_bads {k : Kiln} {f : Fire} {l : List Int} : ∀ {n i : Nat} {x : Int}, x ∈ badsFrom k f l n i ↔ ∃ j : Nat, x = (j : Int) ∧ i ≤ j ∧ j < i + n ∧ badAt k f l j = true
 | 0, i, x => ⟨fun h => (by cases h), fun ⟨j, _, h1, h2, _⟩ => by omega⟩
 | n + 1, i, x => by
  have ih := mem_bads (k := k) (f := f) (l := l) (n := n) (i := i + 1) (x := x)
  rw [badsFrom]
  cases hb : badAt k f l i with
  | true =>
   rw [cond_true, List.mem_cons, ih]
   constructor
   ·rintro (h | ⟨j, h1, h2, h3, h4⟩)
    ·exact ⟨i, h, Nat.le_refl _, by omega, hb⟩
    ·exact ⟨j, h1, by omega, by omega, h4⟩
   ·rintro ⟨j, h1, h2, h3, h4⟩
    by_cases hj : j = i
    ·subst hj; exact .inl h1
    ·exact .inr ⟨j, h1, by omega, by omega, h4⟩
  | false =>
   rw [cond_false, ih]
   constructor
   ·rintro ⟨j, h1, h2, h3, h4⟩; exact ⟨j, h1, by omega, by omega, h4⟩
   ·rintro ⟨j, h1, h2, h3, h4⟩
    have hj : j ≠ i := fun e => by rw [e, hb] at h4; cases h4
    exact ⟨j, h1, by omega, by omega, h4⟩
theorem places_in {k : Kiln} : ∀ {l : List Int} {prev : Int}, placesB k l prev = true → ∀ n ∈ l, 0 ≤ n ∧ n < (k.1.length : Int)
 | [], _, _, n, hn => by cases hn
 | m :: l, prev, h, n, hn => by
  rw [placesB, Bool.and_eq_true, Bool.and_eq_true] at h
  rcases List.mem_cons.1 hn with rfl | hn
  ·have := inB_iff.1 h.1.1; omega
  ·exact places_in h.2 n hn
theorem mem_stands {k : Kiln} {f : Fire} {l : List Int} {s : Stand} : s ∈ standsOf k f l ↔ ∃ n ∈ l, s = standAt k f n := by
 rw [standsOf, List.mem_map]
 exact ⟨fun ⟨n, h, e⟩ => ⟨n, h, e.symm⟩, fun ⟨n, h, e⟩ => ⟨n, h, e.symm⟩⟩
theorem noneBad_iff {bad places : List Int} : noneBad bad places = true ↔ ∀ b ∈ bad, ∀ p ∈ places, b ≠ p := by
 unfold noneBad
 simp only [List.all_eq_true, Bool.not_eq_true', beq_eq_false_iff_ne]
theorem stepsB_iff {k : Kiln} {l : List Int} : stepsB k l = true ↔ ∀ i, i < l.length → stepAt k l i = true := by
 unfold stepsB
 rw [List.all_eq_true]
 exact ⟨fun h i hi => h i (List.mem_range.2 hi), fun h i hi => h i (List.mem_range.1 hi)⟩
theorem stepAt_iff {k : Kiln} {l : List Int} {i : Nat} : stepAt k l i = true ↔ Int.tmod (l.getD i 0) k.2.2.2 = 0 ∧ (1 ≤ i → max (l.getD i 0 - l.getD (i - 1) 0) (l.getD (i - 1) 0 - l.getD i 0) ≤ k.2.2.1) := by
 unfold stepAt
 rw [Bool.not_eq_true', Bool.or_eq_false_iff, Bool.not_eq_false', beq_iff_eq, Bool.and_eq_false_iff, decide_eq_false_iff_not, decide_eq_false_iff_not]
 constructor
 ·rintro ⟨h1, h2⟩
  exact ⟨h1, fun h => by omega⟩
 ·rintro ⟨h1, h2⟩
  refine ⟨h1, ?_⟩
  by_cases h : 1 ≤ i
  ·exact .inr (by have := h2 h; omega)
  ·exact .inl (by omega)
theorem mult_of {a s : Int} (hs : 0 < s) (h0 : 0 ≤ a) (h : Int.tmod a s = 0) : ∃ j : Nat, a = (j : Int) * s := by
 obtain ⟨c, hc⟩ := Int.dvd_of_tmod_eq_zero h
 have hc0 : 0 ≤ c := by
  by_cases h1 : 0 ≤ c
  ·exact h1
  ·have := Int.mul_le_mul_of_nonneg_left (show c ≤ -1 by omega) (show 0 ≤ s by omega)
   omega
 exact ⟨c.toNat, by rw [hc, Int.toNat_of_nonneg hc0, Int.mul_comm]⟩
theorem bakes_iff {k : Kiln} {f : Fire} {places l : List Int} (hk : kilnB k = true) (hf : fireB f = true) (hp : placesB k places (-1) = true) (hne : places ≠ []) :
  bakesV l k f places = true ↔ l ≠ [] ∧ l.length ≤ 40 ∧ Way k f (standsOf k f places) l ∧ goalB f (standsOf k f places) (stR f (standsOf k f places) l.reverse) = true := by
 have K := kiln_iff.1 hk
 have F := fire_iff.1 hf
 have hst := K.step
 obtain ⟨S, hS⟩ : ∃ S, S = standsOf k f places := ⟨_, rfl⟩
 have mS : ∀ {s}, s ∈ S ↔ ∃ n ∈ places, s = standAt k f n := by rw [hS]; exact mem_stands
 have sS : ∀ s ∈ S, s.2.1 = f ∧ placeB s.2.2 = true := fun s h => by
  obtain ⟨n, hn, rfl⟩ := mS.1 h
  have hr := places_in hp n hn
  exact ⟨rfl, K.place _ (getD_mem' k.1 _ n hr.1 hr.2)⟩
 have hSne : S ≠ [] := by
  cases hpl : places with
  | nil => exact absurd hpl hne
  | cons n r => rw [hS, hpl]; simp [standsOf]
 rw [← hS]
 have hcold : ∀ {x h}, allCold S x h = true ↔ ∀ s ∈ S, coldV s x h = true := List.all_eq_true
 have hgo : ∀ {a b}, S.all (goesV f a b) = true ↔ ∀ s ∈ S, slowV s a b f.2.2.2.2.1 = true ∧ slowV s b a f.2.2.2.2.2 = true := fun {a b} => by
  rw [List.all_eq_true]
  simp only [goesV, Bool.and_eq_true]
 have hheld := fun prog : List Int => all_held (prog := prog) hSne (fun s h => (sS s h).2) (fun s h => (sS s h).1) F.2.1.1
 have hgoal : ∀ {p : List Int}, p ≠ [] → (goalB f S (stR f S p.reverse) = true ↔ (∀ s ∈ S, heldV s p 0 = true) ∧ ∀ s ∈ S, coldV s (p.getD (p.length - 1) 0) f.1 = true) := fun {p} hpne => by
  have e1 : (stR f S p.reverse).1 = p.getD (p.length - 1) 0 := by
   obtain ⟨q, x, rfl⟩ : ∃ q x, p = q ++ [x] := ⟨p.dropLast, p.getLast hpne, (List.dropLast_concat_getLast hpne).symm⟩
   rw [List.reverse_append]
   show x = _
   rw [getD_snoc]; simp
  unfold goalB
  rw [Bool.and_eq_true, e1, hcold, beq_iff_eq, stR_cap, List.reverse_reverse, hheld p]
 have hbad : ∀ n ∈ places, progB l = true → (badAt k f l n.toNat = false ↔ Keeps (standAt k f n) l) := fun n hn hl => by
  have hL := (prog_iff.1 hl).1
  rw [← keeps_iff (s := standAt k f n) (l := l) (by omega) F.2.1.1]
  unfold badAt
  rw [Bool.not_eq_false', beq_iff_eq]; rfl
 have hchk : (fire_Check (k, f, l)).2 = 0 ↔ progB l = true := by
  show (checkV k f l).2 = 0 ↔ _
  unfold checkV
  cases hc : !(fire_check (k, l, [f]) == 0) with
  | true =>
   have : fire_check (k, l, [f]) ≠ 0 := by simpa using hc
   exact ⟨fun h => absurd h this, fun h => absurd (check_ok.2 ⟨hk, hf, h⟩) this⟩
  | false =>
   have : fire_check (k, l, [f]) = 0 := by simpa using hc
   exact ⟨fun _ => (check_ok.1 this).2.2, fun _ => rfl⟩
 have hlist : progB l = true → (fire_Check (k, f, l)).1 = badsFrom k f l k.1.length 0 := fun hl => by
  show (checkV k f l).1 = _
  unfold checkV
  rw [check_ok.2 ⟨hk, hf, hl⟩]; rfl
 have hbk : bakesV l k f places = true ↔ (∀ i, i < l.length → stepAt k l i = true) ∧ progB l = true ∧ ∀ n ∈ places, Keeps (standAt k f n) l := by
  unfold bakesV
  rw [Bool.and_eq_true, Bool.and_eq_true, stepsB_iff, beq_iff_eq, hchk, noneBad_iff]
  refine and_congr_right fun _ => and_congr_right fun hl => ?_
  rw [hlist hl]
  constructor
  ·intro h n hn
   refine (hbad n hn hl).1 ?_
   have hr := places_in hp n hn
   cases hb : badAt k f l n.toNat with
   | false => rfl
   | true => exact absurd (show ((n.toNat : Nat) : Int) = n by omega) (h _ (mem_bads.2 ⟨n.toNat, rfl, by omega, by omega, hb⟩) n hn)
  ·intro h b hb n hn e
   obtain ⟨j, h1, _, _, h4⟩ := mem_bads.1 hb
   have := (hbad n hn hl).2 (h n hn)
   rw [show n.toNat = j by omega, h4] at this; cases this
 rw [hbk]
 constructor
 ·rintro ⟨h1, hl, h3⟩
  have P := prog_iff.1 hl
  have hL := P.1
  have hlne : l ≠ [] := fun e => by rw [e] at hL; simp at hL
  have k3 : ∀ s ∈ S, Keeps s l ∧ s.2.1 = f := fun s hs => by
   obtain ⟨n, hn, rfl⟩ := mS.1 hs
   exact ⟨h3 n hn, rfl⟩
  refine ⟨hlne, by omega, ⟨fun i hi => ?_, fun _ => hcold.2 fun s hs => ?_, fun i hi => hcold.2 fun s hs => ?_, fun i h0 hi => ⟨(stepAt_iff.1 (h1 i hi)).2 h0, hgo.2 fun s hs => ?_⟩⟩, (hgoal hlne).2 ⟨fun s hs => (k3 s hs).1.hold, fun s hs => ?_⟩⟩
  ·have := P.2 _ (getD_mem l 0 i hi)
   exact ⟨mult_of (by omega) this.1 (stepAt_iff.1 (h1 i hi)).1, this.2⟩
  ·have := (k3 s hs).1.first; rw [(k3 s hs).2] at this; exact this
  ·have := (k3 s hs).1.top i hi; rw [(k3 s hs).2] at this; exact this
  ·have h1 := (k3 s hs).1.rise i h0 hi
   have h2 := (k3 s hs).1.fall i h0 hi
   rw [(k3 s hs).2] at h1 h2; exact ⟨h1, h2⟩
  ·have := (k3 s hs).1.last; rw [(k3 s hs).2] at this; exact this
 ·rintro ⟨hlne, hl40, W, hg⟩
  obtain ⟨g1, g2⟩ := (hgoal hlne).1 hg
  have hL : 0 < l.length := List.length_pos_iff.2 hlne
  have hl : progB l = true := prog_iff.2 ⟨⟨by omega, by omega⟩, fun x hx => by
   obtain ⟨i, hi, rfl⟩ := List.mem_iff_getElem.1 hx
   have := num_pos (k := k) (by omega) (W.num i hi)
   have e : l[i] = l.getD i 0 := by simp [List.getD, hi]
   rw [e]; exact this⟩
  refine ⟨fun i hi => stepAt_iff.2 ⟨?_, fun h0 => (W.two i h0 hi).1⟩, hl, fun n hn => ?_⟩
  ·obtain ⟨⟨j, hj⟩, _⟩ := W.num i hi
   rw [hj]; exact Int.mul_tmod_left ..
  ·have hs : standAt k f n ∈ S := mS.2 ⟨n, hn, rfl⟩
   exact ⟨hcold.1 (W.first hL) _ hs, fun i hi => hcold.1 (W.top i hi) _ hs, fun i h0 hi => (hgo.1 (W.two i h0 hi).2 _ hs).1, fun i h0 hi => (hgo.1 (W.two i h0 hi).2 _ hs).2, g1 _ hs, g2 _ hs⟩
theorem plan_cases (k : Kiln) (f : Fire) (places : List Int) : fire_Plan (k, f, places) = ([], 1) ∨ fire_Plan (k, f, places) = ([], 2) ∨
  (kilnB k = true ∧ fireB f = true ∧ placesB k places (-1) = true ∧ places ≠ [] ∧ Least k f (standsOf k f places) (fire_Plan (k, f, places))) := by
 have e : fire_Plan (k, f, places) = planV k f places := rfl
 rw [e, planV]
 cases h1 : (!kilnB k || !fireB f) with
 | true => exact .inl rfl
 | false =>
  simp only [Bool.or_eq_false_iff, Bool.not_eq_false'] at h1
  cases h2 : (!placesB k places (-1) || (places.length : Int) == 0) with
  | true => exact .inr (.inl rfl)
  | false =>
   simp only [Bool.or_eq_false_iff, Bool.not_eq_false', beq_eq_false_iff_ne] at h2
   have K := kiln_iff.1 h1.1
   have F := fire_iff.1 h1.2
   exact .inr (.inr ⟨h1.1, h1.2, h2.1, fun e => by rw [e] at h2; simp at h2, plan_least K.step.1 F.2.1⟩)
structure Looser (k : Kiln) (f : Fire) (S : List Stand) (k' : Kiln) (f' : Fire) (S' : List Stand) : Prop where
 step : k'.2.2.2 = k.2.2.2
 ramp : k.2.2.1 ≤ k'.2.2.1
 cool : f'.1 = f.1
 soak : f'.2.1 = f.2.1
 hold : f'.2.2.2.1 = f.2.2.2.1
 top : f.2.2.1 ≤ f'.2.2.1
 rise : f.2.2.2.2.1 ≤ f'.2.2.2.2.1
 fall : f.2.2.2.2.2 ≤ f'.2.2.2.2.2
 at_ : ∀ s' ∈ S', s'.2.1 = f' ∧ ∃ s ∈ S, s.2.1 = f ∧ s.2.2 = s'.2.2 ∧ (0 ≤ s'.1.2.1 ∧ s'.1.2.1 ≤ s.1.2.1) ∧ placeB s.2.2 = true
variable {k k' : Kiln} {f f' : Fire} {S S' : List Stand}
theorem Looser.cold (L : Looser k f S k' f' S') {x h h' : Int} (hh : h ≤ h') (hc : allCold S x h = true) : allCold S' x h' = true := by
 refine List.all_eq_true.2 fun s' hs' => ?_
 obtain ⟨_, s, hs, _, e, he, hp⟩ := L.at_ s' hs'
 have P := place_iff.1 hp
 have h1 : s.2.2.1.2 * (x + s.1.2.1) + 1000 * s.2.2.2.2 ≤ 1000 * h := of_decide_eq_true (List.all_eq_true.1 hc s hs)
 have h2 : s.2.2.1.2 * (x + s'.1.2.1) ≤ s.2.2.1.2 * (x + s.1.2.1) := Int.mul_le_mul_of_nonneg_left (by omega) (by omega)
 refine decide_eq_true ?_
 show s'.2.2.1.2 * (x + s'.1.2.1) + 1000 * s'.2.2.2.2 ≤ 1000 * h'
 rw [← e]; omega
theorem Looser.soaks (L : Looser k f S k' f' S') {x : Int} (hc : allSoak S x = true) : allSoak S' x = true := by
 refine List.all_eq_true.2 fun s' hs' => ?_
 obtain ⟨e', s, hs, e0, e, he, hp⟩ := L.at_ s' hs'
 have P := place_iff.1 hp
 have h1 : 1000 * s.2.1.2.1 ≤ s.2.2.1.1 * max 0 (x - s.1.2.1) + 1000 * s.2.2.2.1 := of_decide_eq_true (List.all_eq_true.1 hc s hs)
 have h2 : s.2.2.1.1 * max 0 (x - s.1.2.1) ≤ s.2.2.1.1 * max 0 (x - s'.1.2.1) := Int.mul_le_mul_of_nonneg_left (by omega) (by omega)
 refine decide_eq_true ?_
 show 1000 * s'.2.1.2.1 ≤ s'.2.2.1.1 * max 0 (x - s'.1.2.1) + 1000 * s'.2.2.2.1
 rw [← e, e', L.soak, ← e0]; omega
theorem Looser.goes (L : Looser k f S k' f' S') {a b : Int} (hc : S.all (goesV f a b) = true) : S'.all (goesV f' a b) = true := by
 refine List.all_eq_true.2 fun s' hs' => ?_
 obtain ⟨e', s, hs, e0, e, he, hp⟩ := L.at_ s' hs'
 have P := place_iff.1 hp
 have h0 := List.all_eq_true.1 hc s hs
 rw [goesV, Bool.and_eq_true] at h0
 have h1 : s.2.2.1.2 * (b + s.1.2.1 - max 0 (a - s.1.2.1)) ≤ 1000 * f.2.2.2.2.1 := of_decide_eq_true h0.1
 have h2 : s.2.2.1.2 * (a + s.1.2.1 - max 0 (b - s.1.2.1)) ≤ 1000 * f.2.2.2.2.2 := of_decide_eq_true h0.2
 have h3 : s.2.2.1.2 * (b + s'.1.2.1 - max 0 (a - s'.1.2.1)) ≤ s.2.2.1.2 * (b + s.1.2.1 - max 0 (a - s.1.2.1)) := Int.mul_le_mul_of_nonneg_left (by omega) (by omega)
 have h4 : s.2.2.1.2 * (a + s'.1.2.1 - max 0 (b - s'.1.2.1)) ≤ s.2.2.1.2 * (a + s.1.2.1 - max 0 (b - s.1.2.1)) := Int.mul_le_mul_of_nonneg_left (by omega) (by omega)
 have r := L.rise
 have fl := L.fall
 rw [goesV, Bool.and_eq_true]
 refine ⟨decide_eq_true ?_, decide_eq_true ?_⟩
 ·show s'.2.2.1.2 * (b + s'.1.2.1 - max 0 (a - s'.1.2.1)) ≤ 1000 * f'.2.2.2.2.1
  rw [← e]; omega
 ·show s'.2.2.1.2 * (a + s'.1.2.1 - max 0 (b - s'.1.2.1)) ≤ 1000 * f'.2.2.2.2.2
  rw [← e]; omega
theorem Looser.way (L : Looser k f S k' f' S') {p : List Int} (W : Way k f S p) : Way k' f' S' p := by
 have r := L.ramp
 refine ⟨fun i hi => ?_, fun h => ?_, fun i hi => L.cold L.top (W.top i hi), fun i h0 hi => ⟨?_, L.goes (W.two i h0 hi).2⟩⟩
 ·obtain ⟨⟨j, hj⟩, h⟩ := W.num i hi
  exact ⟨⟨j, by rw [L.step]; exact hj⟩, h⟩
 ·rw [L.cool]; exact L.cold (Int.le_refl _) (W.first h)
 ·have := (W.two i h0 hi).1; omega
theorem Looser.goal (L : Looser k f S k' f' S') (hh : 1 ≤ f.2.2.2.1) {a : List Int} (ha : a ≠ []) (hg : goalB f S (stR f S a) = true) : goalB f' S' (stR f' S' a) = true := by
 unfold goalB at hg ⊢
 rw [Bool.and_eq_true, beq_iff_eq, stR_cap] at hg ⊢
 have h1 : (stR f' S' a).1 = (stR f S a).1 := by cases a with | nil => rfl | cons x r => rfl
 have h2 := capF_mono (hold := f.2.2.2.1) (l := a.reverse) (f := allSoak S) (g := allSoak S') (m := 0) (m' := 0) (fun x _ => L.soaks) (by omega) (by omega)
 have h3 := capF_bd (hold := f.2.2.2.1) (l := a.reverse.map (allSoak S')) (m := 0) (by omega)
 rw [L.hold, h1, L.cool]
 exact ⟨by omega, L.cold (Int.le_refl _) hg.2⟩
theorem looser_plan (hs : 50 ≤ k.2.2.2) (hh : 1 ≤ f.2.2.2.1) (L : Looser k f S k' f' S') {r r' : (List Int) × Int} (h : Least k f S r) (h' : Least k' f' S' r') (h0 : r.2 = 0) : r'.2 = 0 ∧ r'.1.length ≤ r.1.length := by
 rcases h with ⟨a, e, hne, hv, hg, hl, _⟩ | ⟨e, _⟩
 ·have hv' : vaR k' f' S' a := (way_iff (by rw [L.step]; exact hs)).2 (L.way ((way_iff hs).1 hv))
  have hg' := L.goal hh hne hg
  rcases h' with ⟨b, e', _, hv2, _, _, hb⟩ | ⟨e', hb⟩
  ·have := key_len (va_digits (by rw [L.step]; exact hs) hv2) (va_digits hs hv) (hb a hv' hg' hl)
   rw [e, e']
   simp only [List.length_reverse]
   exact ⟨trivial, this⟩
  ·rw [hb a hv' hl] at hg'; cases hg'
 ·rw [e] at h0; cases h0
end Go.Fire
