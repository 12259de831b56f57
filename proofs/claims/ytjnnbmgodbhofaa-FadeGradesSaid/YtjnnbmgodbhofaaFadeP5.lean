/-
  Chapter 12: the conditions, proved; fifth part: the examples; FadeNames; FadeOwns; the document's Cards.
-/
import Derived.Test.YtjnnbmgodbhofaaFadeP4
import Derived.ProofKit
set_option linter.all false
set_option maxRecDepth 1000000
namespace Go.Fade
open Go Go.Sx
theorem sample_p {l : List Check} (h : l.length ≤ 100) : sizeP (law12u_sample l) := by
 refine ⟨by show 3 ≤ 1000000; omega, by show 3 ≤ 1000000; omega, ?_⟩
 show ([_, _, _, _, _, _, _] ++ l).length ≤ _
 simp only [List.length_append, List.length_cons, List.length_nil, big]
 omega
theorem s0 : law12u_sample_p [] := Nat.zero_le _
theorem s1 (c : Check) : law12u_sample_p [c] := by show 1 ≤ 100; omega
theorem v13 (x : Unit) (_ : k13.pre x) : V13 x :=
 ⟨s0, sample_p (Nat.zero_le _), s0, sample_p (Nat.zero_le _), s0, sample_p (Nat.zero_le _), s1 _, sample_p (s1 _), s0, trivial, sample_p (Nat.zero_le _), trivial, fun _ => trivial, fun _ => trivial, by kernel_rfl⟩
theorem n1 : fade_Light (law12u_sample [], 1) = ((100, 120), 0) := by kernel_rfl
theorem n2 : fade_Light (law12u_sample [], 3) = ((270, 299), 0) := by kernel_rfl
theorem n3 : fade_Fast (law12u_sample [], 0, 2) = ((271, 300), 0) := by kernel_rfl
theorem n4 : fade_Fast (law12u_sample [], 1, 1) = ((181, 16777216), 0) := by kernel_rfl
theorem n5 : fade_Grade (law12u_sample [], 0) = ((1, 2), 0) := by kernel_rfl
theorem n6 : fade_Grade (law12u_sample ((List.replicate 1 (0, 0, 0, false)).set 0 (3, 1, 1, true)), 1) = ((2, 2), 0) := by kernel_rfl
theorem n7 : fade_Clash (law12u_sample []) = (0, 4) := by kernel_rfl
theorem n8 : fade_Until (law12u_sample [], 2, law12u_span (0, 60)) = (0, 4) := by kernel_rfl
theorem v5 (x : Unit) (_ : k5.pre x) : V5 x := by
 rw [V5, n1, n2, n3, n4, n5, n6, n7, n8]
 refine ⟨s0, sample_p (Nat.zero_le _), s0, sample_p (Nat.zero_le _), s0, sample_p (Nat.zero_le _), s0, sample_p (Nat.zero_le _), s0, sample_p (Nat.zero_le _), s1 _, sample_p (s1 _), s0, sample_p (Nat.zero_le _), s0, trivial, sample_p (Nat.zero_le _), trivial, fun _ => trivial, fun _ => trivial, fun _ => trivial, fun h => ?_, fun _ => ⟨fun _ => trivial, fun _ => trivial, fun _ => trivial, rfl⟩⟩
 exact absurd h (by decide)
theorem cards_months {f : Fading} (h : f.1.all (fun s => spanB s 0 1000000) = false) : cardsB f = false := by
 rw [cardsB, h, Bool.and_false, Bool.false_and, Bool.false_and]
theorem cards_refs {f : Fading} (h : f.2.1.all (fun s => spanB s 1 16777216) = false) : cardsB f = false := by
 rw [cardsB, h, Bool.and_false, Bool.false_and]
theorem cards_checks {f : Fading} (h : f.2.2.2.all (checkB f) = false) : cardsB f = false := by
 rw [cardsB, h, Bool.and_false]
theorem v26 (x : Fading) (hp : k26.pre x) : V26 x := by
 obtain ⟨hm, hr, hc⟩ : sizeP x := hp
 simp only [big] at hm hr hc
 have e : ref12u_Cards x = cardsB x := rfl
 rw [V26, e]
 refine ⟨fun s => 0 ≤ s ∧ s ≤ (x.1.length : Int) ∧ x.1.all (fun s => spanB s 0 1000000) = (x.1.drop s.toNat).all (fun s => spanB s 0 1000000), fun s => ((x.1.length : Int) - s).toNat, ⟨by omega, by omega, rfl⟩, ?_⟩
 rintro s ⟨h1, h2, h3⟩
 refine ⟨fun h => ?_, fun h => ?_⟩
 ·have h := of_decide_eq_true h
  rw [all_drop _ x.1 (0, 0) s h1 h] at h3
  refine ⟨⟨h1, h⟩, trivial, fun hb => ?_, fun hb => ⟨?_, ⟨by omega, by omega, ?_⟩, ?_⟩⟩
  ·have hb : (!spanB (x.1.getD s.toNat (0, 0)) 0 1000000) = true := hb
   rw [not_iff.1.1 hb, Bool.false_and] at h3
   exact (cards_months h3).symm
  ·simp only [Z.in64]; omega
  ·have hb : (!spanB (x.1.getD s.toNat (0, 0)) 0 1000000) = false := hb
   rw [not_iff.2.1 hb, Bool.true_and] at h3
   exact h3
  ·simp only; omega
 have h := of_decide_eq_false h
 rw [show x.1.drop s.toNat = [] from List.drop_eq_nil_of_le (by omega)] at h3
 have hM : x.1.all (fun s => spanB s 0 1000000) = true := h3
 clear h h1 h2 h3
 refine ⟨fun s => 0 ≤ s ∧ s ≤ (x.2.1.length : Int) ∧ x.2.1.all (fun s => spanB s 1 16777216) = (x.2.1.drop s.toNat).all (fun s => spanB s 1 16777216), fun s => ((x.2.1.length : Int) - s).toNat, ⟨by omega, by omega, rfl⟩, ?_⟩
 rintro s ⟨h1, h2, h3⟩
 refine ⟨fun h => ?_, fun h => ?_⟩
 ·have h := of_decide_eq_true h
  rw [all_drop _ x.2.1 (0, 0) s h1 h] at h3
  refine ⟨⟨h1, h⟩, trivial, fun hb => ?_, fun hb => ⟨?_, ⟨by omega, by omega, ?_⟩, ?_⟩⟩
  ·have hb : (!spanB (x.2.1.getD s.toNat (0, 0)) 1 16777216) = true := hb
   rw [not_iff.1.1 hb, Bool.false_and] at h3
   exact (cards_refs h3).symm
  ·simp only [Z.in64]; omega
  ·have hb : (!spanB (x.2.1.getD s.toNat (0, 0)) 1 16777216) = false := hb
   rw [not_iff.2.1 hb, Bool.true_and] at h3
   exact h3
  ·simp only; omega
 have h := of_decide_eq_false h
 rw [show x.2.1.drop s.toNat = [] from List.drop_eq_nil_of_le (by omega)] at h3
 have hR : x.2.1.all (fun s => spanB s 1 16777216) = true := h3
 clear h h1 h2 h3
 refine ⟨fun s => 0 ≤ s ∧ s ≤ (x.2.2.2.length : Int) ∧ x.2.2.2.all (checkB x) = (x.2.2.2.drop s.toNat).all (checkB x), fun s => ((x.2.2.2.length : Int) - s).toNat, ⟨by omega, by omega, rfl⟩, ?_⟩
 rintro s ⟨h1, h2, h3⟩
 refine ⟨fun h => ?_, fun h => ?_⟩
 ·have h := of_decide_eq_true h
  rw [all_drop _ x.2.2.2 (0, 0, 0, false) s h1 h] at h3
  obtain ⟨c, hc'⟩ : ∃ c, c = x.2.2.2.getD s.toNat (0, 0, 0, false) := ⟨_, rfl⟩
  have e3 : x.2.2.2.getD (Int.toNat s) (0, 0, 0, false) = c := hc'.symm
  rw [e3] at h3 ⊢
  have ec : ((!ref12u_in (c.1, 0, (x.1.length : Int))) || !ref12u_Thing (x, c.2.1, c.2.2.1)) = !checkB x c := by
   show (!inB c.1 0 (x.1.length : Int) || !thingB x c.2.1 c.2.2.1) = _
   rw [checkB, Bool.not_and]
  rw [ec]
  refine ⟨⟨h1, h⟩, trivial, fun _ => ?_, fun hb => ?_, fun hb => ⟨?_, ⟨by omega, by omega, ?_⟩, ?_⟩⟩
  ·show x.2.1.length ≤ big
   simp only [big]; omega
  ·rw [not_iff.1.1 hb, Bool.false_and] at h3
   exact (cards_checks h3).symm
  ·simp only [Z.in64]; omega
  ·rw [not_iff.2.1 hb, Bool.true_and] at h3
   exact h3
  ·simp only; omega
 have h := of_decide_eq_false h
 rw [show x.2.2.2.drop s.toNat = [] from List.drop_eq_nil_of_le (by omega)] at h3
 have hC : x.2.2.2.all (checkB x) = true := h3
 refine ⟨fun _ => trivial, ?_⟩
 rw [cardsB, hM, hR, hC, Bool.and_true, Bool.and_true, Bool.and_true]
 rfl
end Go.Fade
