/-
  The law TopFuel.
-/
import Derived.Test.YtpdnhclkelgecaaFuelF1
import Derived.Test.YtpdnhclkelgecaaFuelD5
set_option linter.all false


set_option maxRecDepth 100000
namespace Go.Fuel
open Go Go.Sx

theorem get_set {l : List Int} {i : Nat} {v : Int} (h : i < l.length) : (l.set i v).getD i 0 = v := by simp [List.getD, h]
theorem get_set' {l : List Int} {i j : Nat} {v : Int} (h : i ≠ j) : (l.set i v).getD j 0 = l.getD j 0 := by simp [List.getD, List.getElem?_set, h]
theorem set_own {l : List Int} {i : Nat} (h : i < l.length) (h0 : l.getD i 0 = 0) : l.set i 0 = l := by
  have : l.getD i 0 = l[i] := by simp [List.getD, h]
  rw [h0] at this
  rw [this, List.set_getElem_self]
/-- The firings of a program. -/
def loadAt (err : Int) (l by_ : List Int) (i : Nat) : Load := (Int.tmod (by_.getD (Int.toNat (Int.tmod (i : Int) (by_.length : Int))) 0) 41, max 0 (l.getD i 0 - err), l.getD i 0 + err)
theorem first_neg {from_ : Int} {F : Int × Int → Bool} : ∀ {es : List (Int × List Int)}, (∀ e ∈ es, 0 ≤ e.1) → firstH from_ F es < 0 → ∀ e ∈ es, from_ ≤ e.1 → F (e.2.getD 0 0, e.2.getD 1 0) = true
  | [], _, _, _, he, _ => by cases he
  | e :: r, h0, hn, x, hx, hf => by
    rw [firstH] at hn
    cases hc : (decide (from_ ≤ e.1) && !F (e.2.getD 0 0, e.2.getD 1 0)) with
    | true =>
      rw [hc, cond_true] at hn
      have := h0 e List.mem_cons_self
      omega
    | false =>
      rw [hc, cond_false] at hn
      rcases List.mem_cons.1 hx with rfl | hx
      · rw [decide_eq_true hf, Bool.true_and, Bool.not_eq_false'] at hc
        exact hc
      · exact first_neg (fun e he => h0 e (List.mem_cons_of_mem _ he)) hn x hx hf
theorem first_all {l : List Int} {from_ : Int} {F : Int × Int → Bool} (h : firstOf l from_ F < 0) {i : Nat} (hi : i < l.length) (hf : from_ ≤ (i : Int)) : F (l.getD (i - 1) 0, l.getD i 0) = true :=
  first_neg (es := hoursV l) (fun e he => by
    obtain ⟨j, _, rfl⟩ := List.mem_map.1 he
    show (0 : Int) ≤ (j : Int); omega) h (hourAt l i) (List.mem_map.2 ⟨i, List.mem_range.2 hi, rfl⟩) hf
theorem brk_neg {x : Stand × List Int} : ∀ {R : List (Int × Fun (Stand × List Int) Int)}, (∀ r ∈ R, r.1 ≠ 0) → (brkGo x R).1 = 0 → ∀ r ∈ R, r.2.val x < 0
  | [], _, _, _, hr => by cases hr
  | r :: t, h0, hz, q, hq => by
    rw [brkGo] at hz
    cases hc : decide (0 ≤ r.2.val x) with
    | true =>
      rw [hc, cond_true] at hz
      exact absurd hz (h0 r List.mem_cons_self)
    | false =>
      rw [hc, cond_false] at hz
      rcases List.mem_cons.1 hq with rfl | hq
      · have := of_decide_eq_false hc
        omega
      · exact brk_neg (fun r hr => h0 r (List.mem_cons_of_mem _ hr)) hz q hq
/-- All rules are kept. -/
structure Keeps (s : Stand) (l : List Int) : Prop where
  first : coldV s (l.getD 0 0) s.2.1.1 = true
  top : ∀ i, i < l.length → coldV s (l.getD i 0) s.2.1.2.2.1 = true
  rise : ∀ i, 1 ≤ i → i < l.length → slowV s (l.getD (i - 1) 0) (l.getD i 0) s.2.1.2.2.2.2.1 = true
  fall : ∀ i, 1 ≤ i → i < l.length → slowV s (l.getD i 0) (l.getD (i - 1) 0) s.2.1.2.2.2.2.2 = true
  hold : heldV s l 0 = true
  last : coldV s (l.getD (l.length - 1) 0) s.2.1.1 = true
theorem keeps_of {s : Stand} {l : List Int} (hl : 1 ≤ l.length) (h : (fire_stand_broken (s, l)).1 = 0) : Keeps s l := by
  have hr := brk_neg (R := fire_rules ()) (fun r hr => by
    simp only [fire_rules, List.mem_cons, List.not_mem_nil, or_false] at hr
    rcases hr with rfl | rfl | rfl | rfl | rfl | rfl <;> decide) h
  have r1 : firstOf (l.take 1) 0 (fun e => coldV s e.2 s.2.1.1) < 0 := hr (1, ⟨fire_rules_1u_p, fire_rules_1⟩) (by simp [fire_rules])
  have r2 : firstOf l 0 (fun e => coldV s e.2 s.2.1.2.2.1) < 0 := hr (2, ⟨fire_rules_2u_p, fire_rules_2⟩) (by simp [fire_rules])
  have r3 : firstOf l 1 (fun e => slowV s e.1 e.2 s.2.1.2.2.2.2.1) < 0 := hr (3, ⟨fire_rules_3u_p, fire_rules_3⟩) (by simp [fire_rules])
  have r4 : firstOf l 1 (fun e => slowV s e.2 e.1 s.2.1.2.2.2.2.2) < 0 := hr (4, ⟨fire_rules_4u_p, fire_rules_4⟩) (by simp [fire_rules])
  have r5 : cond (heldV s l 0) (-1) 0 < (0 : Int) := hr (5, ⟨fire_rules_5u_p, fire_rules_5⟩) (by simp [fire_rules])
  have r6 : firstOf l ((l.length : Int) - 1) (fun e => coldV s e.2 s.2.1.1) < 0 := hr (6, ⟨fire_rules_6u_p, fire_rules_6⟩) (by simp [fire_rules])
  refine ⟨?_, fun i hi => first_all r2 hi (by omega), fun i h1 hi => first_all r3 hi (by omega), fun i h1 hi => first_all r4 hi (by omega), ?_, first_all r6 (i := l.length - 1) (by omega) (by omega)⟩
  · have := first_all r1 (i := 0) (by rw [List.length_take]; omega) (by omega)
    have e : (l.take 1).getD 0 0 = l.getD 0 0 := by
      cases l with
      | nil => rfl
      | cons a l => rfl
    rw [e] at this
    exact this
  · cases hh : heldV s l 0 with
    | true => rfl
    | false => rw [hh] at r5; exact absurd r5 (by decide)
/-- Each firing of a plan gives what it must. -/
theorem fits_at {b : Burn} : ∀ {l : List Load} {left : Int} {p : List Feed}, fits b l left p → ∀ i, i < l.length → mayB (p.getD i (0, 0)) = true ∧ doesB b (p.getD i (0, 0)) (l.getD i (0, 0, 0)).2 = true
  | x :: l, left, f :: p, h, 0, _ => ⟨h.1.1, h.1.2.2⟩
  | x :: l, left, f :: p, h, i + 1, hi => by
    have := fits_at h.2 i (by rw [List.length_cons] at hi; omega)
    exact this
  | [], _, [], _, i, hi => by cases hi
/-- Which places are forbidden. -/
theorem bads_ge {k : Kiln} {f : Fire} {l : List Int} : ∀ (n i : Nat), ∀ x ∈ badsFrom k f l n i, (i : Int) ≤ x
  | 0, _, x, hx => by cases hx
  | n + 1, i, x, hx => by
    have ih := bads_ge (k := k) (f := f) (l := l) n (i + 1)
    rw [badsFrom] at hx
    cases hb : badAt k f l i with
    | true =>
      rw [hb, cond_true] at hx
      rcases List.mem_cons.1 hx with rfl | hx
      · omega
      · have := ih x hx; omega
    | false =>
      rw [hb, cond_false] at hx
      have := ih x hx; omega
theorem at_bad {k : Kiln} {f : Fire} {l B : List Int} {n i a : Nat} (hi : i < n) (ha : a ≤ B.length) (h : B.drop a = badsFrom k f l (n - i) i) :
    (decide ((a : Int) < (B.length : Int)) && (B.getD (Int.toNat (a : Int)) 0 == (i : Int))) = badAt k f l i ∧
    (badAt k f l i = true → a < B.length ∧ B.drop (a + 1) = badsFrom k f l (n - (i + 1)) (i + 1)) ∧ (badAt k f l i = false → B.drop a = badsFrom k f l (n - (i + 1)) (i + 1)) := by
  rw [show n - i = (n - (i + 1)) + 1 by omega, badsFrom] at h
  have eN : Int.toNat (a : Int) = a := by omega
  rw [eN]
  cases hb : badAt k f l i with
  | true =>
    rw [hb, cond_true] at h
    have hal : a < B.length := by
      by_cases hh : a < B.length
      · exact hh
      · rw [List.drop_eq_nil_of_le (by omega)] at h; cases h
    rw [drop_getD B 0 a hal] at h
    obtain ⟨e1, e2⟩ := List.cons.inj h
    exact ⟨by rw [decide_eq_true (by omega), e1, beq_self_eq_true]; rfl, fun _ => ⟨hal, e2⟩, fun h => by cases h⟩
  | false =>
    rw [hb, cond_false] at h
    refine ⟨?_, fun h => (by cases h), fun _ => h⟩
    by_cases hal : a < B.length
    · rw [drop_getD B 0 a hal] at h
      have := bads_ge (k := k) (f := f) (l := l) (n - (i + 1)) (i + 1) (B.getD a 0) (by rw [← h]; exact List.mem_cons_self)
      rw [show (B.getD a 0 == (i : Int)) = false by rw [beq_eq_false_iff_ne]; omega, Bool.and_false]
    · rw [decide_eq_false (by omega), Bool.false_and]
/-- How hot leads truly are, in an hour. -/
structure HourF (k : Kiln) (p : Place) (g o h set : Int) : Prop where
  bd : -200000 ≤ g * h + 1000 * o ∧ g * h + 1000 * o ≤ 3350000
  bg : 0 ≤ g * h ∧ g * h ≤ 3150000
  lo : leastV k.2.1 p set ≤ g * h + 1000 * o
  hi : g * h + 1000 * o ≤ mostV k.2.1 p set
theorem hour_ok {k : Kiln} {p : Place} {g o h set : Int} (he : 0 ≤ k.2.1 ∧ k.2.1 ≤ 100) (hp : placeB p = true) (hs : setOk set) (hg : p.1.1 ≤ g ∧ g ≤ p.1.2) (ho : p.2.1 ≤ o ∧ o ≤ p.2.2) (hh : max 0 (set - k.2.1) ≤ h ∧ h ≤ set + k.2.1) : HourF k p g o h set := by
  have P := place_iff.1 hp
  obtain ⟨a1, a2⟩ := most_bd he hp hs
  obtain ⟨b1, b2⟩ := least_bd he hp hs
  have l1 : p.1.1 * max 0 (set - k.2.1) ≤ g * h := Int.mul_le_mul hg.1 hh.1 (by omega) (by omega)
  have l2 : g * h ≤ p.1.2 * (set + k.2.1) := Int.mul_le_mul hg.2 hh.2 (by omega) (by omega)
  unfold leastV at b2
  unfold mostV at a2
  refine ⟨by omega, by omega, ?_, ?_⟩
  · unfold leastV; omega
  · unfold mostV; omega
/-- They do not change too fast. -/
theorem step_ok {s : Stand} {g o h h' before now by_ : Int} (hp : placeB s.2.2 = true) (hg : s.2.2.1.1 ≤ g ∧ g ≤ s.2.2.1.2) (hb : max 0 (before - s.1.2.1) ≤ h) (hn : h' ≤ now + s.1.2.1) (h1 : 1 ≤ by_) (hv : slowV s before now by_ = true) : (g * h' + 1000 * o) - (g * h + 1000 * o) ≤ 1000 * by_ := by
  have P := place_iff.1 hp
  have hv : s.2.2.1.2 * (now + s.1.2.1 - max 0 (before - s.1.2.1)) ≤ 1000 * by_ := of_decide_eq_true hv
  have e : g * h' - g * h = g * (h' - h) := (Int.mul_sub g h' h).symm
  by_cases hd : h' - h ≤ 0
  · have := Int.mul_nonneg (show 0 ≤ g by omega) (show 0 ≤ -(h' - h) by omega)
    rw [Int.mul_neg] at this
    omega
  · have := Int.mul_le_mul hg.2 (show h' - h ≤ now + s.1.2.1 - max 0 (before - s.1.2.1) by omega) (by omega) (by omega)
    omega
end Go.Fuel
