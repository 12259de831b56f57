/-
  Chapter 3: the reference's small functions, their conditions proved.
-/
import Derived.Test.YtfjkenhmaebpmaaFireAuto2
set_option linter.all false
set_option maxRecDepth 100000
set_option linter.unusedVariables false
namespace Go.Fire
open Go Go.Sx
theorem tabs_ok2 : TabsOk Go.Proofs.Try.prog T2 := by
 refine ⟨by kernel_rfl, fun p hp => ?_⟩
 simp only [T2, List.mem_cons, List.not_mem_nil, or_false] at hp
 rcases hp with rfl | rfl <;>
  exact ⟨by kernel_rfl, deep_keyed (by kernel_rfl) (of_decide_eq_true (by kernel_rfl)) (by kernel_rfl) (by kernel_rfl), by kernel_rfl⟩
theorem v45 (x : Int) (hp : k45.pre x) : V45 x := by
 obtain ⟨h1, h2⟩ : -1000000000 ≤ x ∧ x ≤ 1000000000 := hp
 obtain ⟨q, hq⟩ : ∃ q, q = Int.tdiv x 1000 := ⟨_, rfl⟩
 have hc : (0 ≤ x ∧ q = x / 1000) ∨ (x < 0 ∧ q = -((-x) / 1000)) := by
  rcases Int.lt_or_le x 0 with h | h
  ·right
   refine ⟨h, ?_⟩
   rw [hq, ← Int.tdiv_eq_ediv_of_nonneg (by omega : 0 ≤ -x), Int.neg_tdiv, Int.neg_neg]
  ·left
   exact ⟨h, by rw [hq, Int.tdiv_eq_ediv_of_nonneg h]⟩
 unfold V45 ref03u_Down
 rw [← hq]
 refine ⟨⟨by omega, by simp only [Z.in64]; omega⟩, by simp only [Z.in64]; omega, fun h => ⟨by simp only [Z.in64]; omega, ?_⟩, fun h => ?_⟩
 ·have h : x < 1000 * q := of_decide_eq_true h
  omega
 ·have h : ¬ x < 1000 * q := of_decide_eq_false h
  omega
theorem place_ok {k : Kiln} {place : Int} (h : placeOk k place) : (0 ≤ k.2.1 ∧ k.2.1 ≤ 100) ∧ placeB (k.1.getD place.toNat noPlace) = true := by
 have K := kiln_iff.1 h.1
 exact ⟨K.err, K.place _ (getD_mem' k.1 _ place h.2.1 h.2.2)⟩
theorem v46 (x : Kiln × Int × Int) (hp : k46.pre x) : V46 x := by
 obtain ⟨k, place, set⟩ := x
 obtain ⟨h1, h3⟩ : placeOk k place ∧ setOk set := hp
 obtain ⟨he, h2⟩ := place_ok h1
 obtain ⟨p, hpp⟩ : ∃ p, p = k.1.getD place.toNat noPlace := ⟨_, rfl⟩
 rw [← hpp] at h2
 have P := place_iff.1 h2
 obtain ⟨q1, q2⟩ := least_bd he h2 h3
 have s1 := h3.1
 have s2 := h3.2
 have g := v104 (k.2.1, p, set) ⟨he, h2, h3⟩
 rw [hpp] at g
 exact ⟨h1.2, g.1, g.2.1, g.2.2.1, g.2.2.2.1, rfl⟩
theorem v47 (x : Kiln × Int × Int) (hp : k47.pre x) : V47 x := by
 obtain ⟨k, place, set⟩ := x
 obtain ⟨h1, h3⟩ : placeOk k place ∧ setOk set := hp
 obtain ⟨he, h2⟩ := place_ok h1
 have g := v103 (k.2.1, k.1.getD place.toNat noPlace, set) ⟨he, h2, h3⟩
 exact ⟨h1.2, g.1, g.2.1, g.2.2.1, g.2.2.2.1, rfl⟩
theorem v75 (x : Kiln × Int × Int × Int) (hp : k75.pre x) : V75 x := by
 obtain ⟨k, place, before, now⟩ := x
 obtain ⟨h1, h3, h4⟩ : placeOk k place ∧ setOk before ∧ setOk now := hp
 obtain ⟨he, h2⟩ := place_ok h1
 obtain ⟨f, hf⟩ : ∃ f : Fire, fireB f = true := ⟨(0, 0, 0, 1, 1, 1), rfl⟩
 have g := v85 ((k, f, k.1.getD place.toNat noPlace), before, now, 0) ⟨⟨he, h2, hf⟩, h3, h4, by show (0 : Int) ≤ 0; omega, by show (0 : Int) ≤ 4000; omega⟩
 exact ⟨h1.2, g.1, g.2.1, g.2.2.1, g.2.2.2.1, rfl⟩
theorem v74 (x : List Fire) (hp : k74.pre x) : V74 x := by
 have hb : x.length ≤ big := hp
 simp only [big] at hb
 refine ⟨fun s => 0 ≤ s ∧ s ≤ (x.length : Int) ∧ x.all fireB = (x.drop s.toNat).all fireB, fun s => ((x.length : Int) - s).toNat, ⟨by omega, by omega, rfl⟩, ?_⟩
 rintro s ⟨h1, h2, h3⟩
 refine ⟨fun h => ?_, fun h => ?_⟩
 ·have h : s < (x.length : Int) := of_decide_eq_true h
  rw [all_drop fireB x (0, 0, 0, 0, 0, 0) s h1 h] at h3
  refine ⟨⟨h1, h⟩, trivial, fun hv => ?_, fun hv => ⟨by simp only [Z.in64]; omega, ⟨by omega, by omega, ?_⟩, by simp only; omega⟩⟩
  ·have hv : fireB (x.getD s.toNat (0, 0, 0, 0, 0, 0)) = false := not_iff.1.1 hv
   show false = x.all fireB
   rw [h3, hv, Bool.false_and]
  ·have hv : fireB (x.getD s.toNat (0, 0, 0, 0, 0, 0)) = true := not_iff.2.1 hv
   rw [h3, hv, Bool.true_and]
 ·have h : ¬ s < (x.length : Int) := of_decide_eq_false h
  show true = x.all fireB
  rw [h3, List.drop_eq_nil_of_le (by omega)]; rfl
theorem v50 (x : Kiln × (List Fire) × List Int) (hp : k50.pre x) : V50 x := by
 obtain ⟨k, fs, l⟩ := x
 obtain ⟨hb, hb2⟩ : k.1.length ≤ big ∧ fs.length ≤ big := hp
 simp only [big] at hb
 have e : ref03u_check (k, fs, l) = cond (!kilnB k || !fs.all fireB) 1 (cond (decide ((40 : Int) < (l.length : Int)) || decide ((8 : Int) < (fs.length : Int))) 3 (cond (((l.length : Int) == 0) || l.any fun n => !heatB n) 2 0)) := rfl
 rw [V50, e]
 refine ⟨by show k.1.length ≤ _; omega, fun _ => hb2, fun h => ?_, fun h => ?_⟩
 ·have h : (!kilnB k || !fs.all fireB) = true := h
  rw [h]; rfl
 have h : (!kilnB k || !fs.all fireB) = false := h
 rw [h, cond_false]
 refine ⟨fun h => ?_, fun h => ?_⟩
 ·have h : (decide ((40 : Int) < (l.length : Int)) || decide ((8 : Int) < (fs.length : Int))) = true := h
  rw [h]; rfl
 have h : (decide ((40 : Int) < (l.length : Int)) || decide ((8 : Int) < (fs.length : Int))) = false := h
 rw [h, cond_false]
 simp only [Bool.or_eq_false_iff, decide_eq_false_iff_not] at h
 have ep : progB l = (inB (l.length : Int) 1 40 && l.all heatB) := rfl
 have ea : (l.any fun n => !heatB n) = !l.all heatB := by rw [← any_not]; simp
 have eq : (((l.length : Int) == 0) || l.any fun n => !heatB n) = !progB l := by
  rw [ea, ep]
  by_cases h0 : (l.length : Int) = 0
  ·rw [h0]; simp [inB]
  ·rw [show ((l.length : Int) == 0) = false by simpa using h0, inB_iff.2 (show (1 : Int) ≤ (l.length : Int) ∧ (l.length : Int) ≤ 40 by omega)]; simp
 rw [eq]
 refine ⟨by show l.length ≤ _; omega, fun hv => ?_, fun hv => ?_⟩
 ·have hv : (!progB l) = true := hv
  rw [hv]; rfl
 ·have hv : (!progB l) = false := hv
  rw [hv]; rfl
theorem v15 (x : Kiln × Int × Int) (hp : k15.pre x) : V15 x := by
 obtain ⟨k, place, set⟩ := x
 have hb : k.1.length ≤ big := hp
 simp only [big] at hb
 have e : ref03u_Heat (k, place, set) = heatOf k place set := rfl
 rw [V15, e]
 refine ⟨by show k.1.length ≤ _; omega, fun h => ?_, fun h => ?_⟩
 ·have h : (!kilnB k) = true := h
  rw [heatOf, h]; rfl
 have h : (!kilnB k) = false := h
 rw [heatOf, h, cond_false]
 have hk := not_iff.2.1 h
 refine ⟨by simp only [Z.in64]; omega, trivial, fun _ => trivial, fun hv => ?_, fun hv => ?_⟩
 ·have hv : (!inB place 0 ((k.1.length : Int) - 1) || !heatB set) = true := hv
  rw [hv]; rfl
 have hv : (!inB place 0 ((k.1.length : Int) - 1) || !heatB set) = false := hv
 rw [hv, cond_false]
 simp only [Bool.or_eq_false_iff] at hv
 have hpl := inB_iff.1 (not_iff.2.1 hv.1)
 have hs : setOk set := inB_iff.1 (not_iff.2.1 hv.2)
 have ho : placeOk k place := ⟨hk, hpl.1, by omega⟩
 obtain ⟨he, h2⟩ := place_ok ho
 obtain ⟨q1, q2⟩ := least_bd he h2 hs
 obtain ⟨r1, r2⟩ := most_bd he h2 hs
 have a1 : ref03u_Least (k, place, set) = leastV k.2.1 (k.1.getD place.toNat noPlace) set := rfl
 have a2 : ref03u_Most (k, place, set) = mostV k.2.1 (k.1.getD place.toNat noPlace) set := rfl
 refine ⟨⟨ho, hs⟩, ?_, ⟨ho, hs⟩, ?_, ?_, ?_, rfl⟩
 ·show -1000000000 ≤ ref03u_Least (k, place, set) ∧ ref03u_Least (k, place, set) ≤ 1000000000
  rw [a1]; omega
 ·show Z.in64 (-(ref03u_Most (k, place, set)))
  rw [a2]; simp only [Z.in64]; omega
 ·show -1000000000 ≤ -(ref03u_Most (k, place, set)) ∧ -(ref03u_Most (k, place, set)) ≤ 1000000000
  rw [a2]; omega
 ·show Z.in64 (-(-(ref03u_Most (k, place, set)) / 1000))
  rw [a2]; simp only [Z.in64]; omega
end Go.Fire
