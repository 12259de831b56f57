/-
  Chapter 3: the reference's Broken finds what the rules find; its Check and Why; FireChecks.
-/
import Derived.Test.YtfjkenhmaebpmaaFireP9
set_option linter.all false
set_option maxRecDepth 100000
set_option linter.unusedVariables false
namespace Go.Fire
open Go Go.Sx
def restOf (l : List Int) (i : Nat) : List (Int × List Int) := ((List.range l.length).drop i).map (hourAt l)
theorem rest_zero (l : List Int) : restOf l 0 = hoursV l := rfl
theorem rest_step {l : List Int} {i : Nat} (h : i < l.length) : restOf l i = hourAt l i :: restOf l (i + 1) := by
 unfold restOf; rw [range_drop h, List.map_cons]
theorem rest_end {l : List Int} {i : Nat} (h : l.length ≤ i) : restOf l i = [] := by
 unfold restOf; rw [List.drop_eq_nil_of_le (by simpa using h)]; rfl
theorem firstH_step {l : List Int} {from_ : Int} {F : Int × Int → Bool} {i : Nat} (h : i < l.length) :
  firstH from_ F (restOf l i) = cond (decide (from_ ≤ (i : Int)) && !F (l.getD (i - 1) 0, l.getD i 0)) (i : Int) (firstH from_ F (restOf l (i + 1))) := by
 rw [rest_step h, firstH]; rfl
theorem firstH_end {l : List Int} {from_ : Int} {F : Int × Int → Bool} {i : Nat} (h : l.length ≤ i) : firstH from_ F (restOf l i) = -1 := by
 rw [rest_end h]; rfl
theorem firstH_skip {l : List Int} {from_ : Nat} {F : Int × Int → Bool} : ∀ {i : Nat}, i ≤ from_ → from_ ≤ l.length → firstH (from_ : Int) F (restOf l 0) = firstH (from_ : Int) F (restOf l i)
 | 0, _, _ => rfl
 | i + 1, h, hl => by
  rw [firstH_skip (i := i) (by omega) hl, firstH_step (by omega), decide_eq_false (show ¬ (from_ : Int) ≤ (i : Int) by omega), Bool.false_and, cond_false]
theorem run_ge {s : Stand} : ∀ {l : List Int} {now best : Int}, best ≤ runMax s l now best
 | [], _, _ => Int.le_refl _
 | set :: l, now, best => by
  rw [runMax]
  cases soakV s set with
  | true => exact Int.le_trans (by omega) (run_ge (l := l) (now := now + 1) (best := max best (now + 1)))
  | false => exact Int.le_trans (by omega) (run_ge (l := l) (now := 0) (best := max best 0))
theorem run_held {s : Stand} (hh : 1 ≤ s.2.1.2.2.2.1) : ∀ {l : List Int} {now best : Int}, 0 ≤ now ∧ now < s.2.1.2.2.2.1 → best < s.2.1.2.2.2.1 → decide (runMax s l now best < s.2.1.2.2.2.1) = !heldV s l now
 | [], now, best, h1, h2 => by rw [runMax, heldV, decide_eq_true h2]; rfl
 | set :: l, now, best, h1, h2 => by
  rw [runMax, heldV]
  cases soakV s set with
  | false => exact run_held hh (by omega) (by omega)
  | true =>
   simp only [cond_true, Bool.not_true, cond_false]
   by_cases he : now + 1 = s.2.1.2.2.2.1
   ·have hb : (now + 1 == s.2.1.2.2.2.1) = true := by simpa using he
    have := run_ge (s := s) (l := l) (now := now + 1) (best := max best (now + 1))
    simp only [hb, cond_true, Bool.not_true]
    exact decide_eq_false (by omega)
   ·have hb : (now + 1 == s.2.1.2.2.2.1) = false := by simpa using he
    simp only [hb, cond_false]
    exact run_held hh (by omega) (by omega)
theorem v76 (x : Kiln × Fire × (List Int) × Int) (hp : k76.pre x) : V76 x := by
 obtain ⟨k, f, l, place⟩ := x
 obtain ⟨ho, hf, hl⟩ : placeOk k place ∧ fireB f = true ∧ progB l = true := hp
 have F := fire_iff.1 hf
 have L := prog_iff.1 hl
 have e : ref03u_soaked (k, f, l, place) = runMax (standAt k f place) l 0 0 := rfl
 refine ⟨fun s => ∃ i : Nat, s.2.2 = (i : Int) ∧ i ≤ l.length ∧ (0 ≤ s.2.1 ∧ s.2.1 ≤ (i : Int)) ∧ ref03u_soaked (k, f, l, place) = runMax (standAt k f place) (l.drop i) s.2.1 s.1, fun s => ((l.length : Int) - s.2.2).toNat,
  ⟨0, rfl, Nat.zero_le _, ⟨by show (0 : Int) ≤ 0; omega, by show (0 : Int) ≤ 0; omega⟩, rfl⟩, ?_⟩
 rintro ⟨best, now, i0⟩ ⟨i, rfl, g1, g2, g3⟩
 simp only at g2 g3
 refine ⟨fun hd => ?_, fun hd => ?_⟩
 ·have hd : (i : Int) < (l.length : Int) := of_decide_eq_true hd
  rw [drop_getD l 0 i (by omega), runMax] at g3
  have hs : setOk (l.getD i 0) := L.2 _ (getD_mem l 0 i (by omega))
  refine ⟨⟨by show (0 : Int) ≤ (i : Int); omega, hd⟩, ⟨ho, hs⟩, by simp only [Z.in64]; omega, fun hv => ?_, fun hv => ?_⟩
  ·have hv : soakV (standAt k f place) (l.getD i 0) = true := hv
   rw [hv, cond_true] at g3
   exact ⟨by simp only [Z.in64]; omega, by simp only [Z.in64]; omega, ⟨i + 1, by simp only; omega, by omega, by simp only; omega, g3⟩, by simp only; omega⟩
  ·have hv : soakV (standAt k f place) (l.getD i 0) = false := hv
   rw [hv, cond_false] at g3
   exact ⟨by simp only [Z.in64]; omega, ⟨i + 1, by simp only; omega, by omega, by simp only; omega, g3⟩, by simp only; omega⟩
 ·have hd : ¬ (i : Int) < (l.length : Int) := of_decide_eq_false hd
  rw [List.drop_eq_nil_of_le (by omega), runMax] at g3
  exact g3.symm
theorem lt_le (a b : Int) : decide (b < a) = !decide (a ≤ b) := by
 by_cases h : a ≤ b
 ·rw [decide_eq_true h, decide_eq_false (by omega)]; rfl
 ·rw [decide_eq_false h, decide_eq_true (by omega)]; rfl
theorem more_le {a b : Int} (hb : 0 ≤ b) : decide (b < max 0 a) = !decide (a ≤ b) := by
 by_cases h : a ≤ b
 ·rw [decide_eq_true h, decide_eq_false (by omega)]; rfl
 ·rw [decide_eq_false h, decide_eq_true (by omega)]; rfl
theorem at_cond {α : Type} {r : Int} (i : Nat) (h : r = (i : Int)) (a : α) (b : α) : cond (decide (0 ≤ r)) a b = a := by
 rw [h, decide_eq_true (show 0 ≤ (i : Int) by omega)]; rfl
theorem no_cond {α : Type} {r : Int} (h : r = -1) (a : α) (b : α) : cond (decide (0 ≤ r)) a b = b := by
 rw [h]; rfl
theorem v51 (x : Kiln × Fire × (List Int) × Int) (hp : k51.pre x) : V51 x := by
 obtain ⟨k, f, l, place⟩ := x
 obtain ⟨ho, hf, hl⟩ : placeOk k place ∧ fireB f = true ∧ progB l = true := hp
 have F := fire_iff.1 hf
 have L := prog_iff.1 hl
 have hlen : 1 ≤ l.length := by omega
 obtain ⟨s, hs⟩ : ∃ s, s = standAt k f place := ⟨_, rfl⟩
 obtain ⟨r1, h1⟩ : ∃ r, r = firstOf (l.take 1) 0 (fun e => coldV s e.2 f.1) := ⟨_, rfl⟩
 obtain ⟨r2, h2⟩ : ∃ r, r = firstH 0 (fun e => coldV s e.2 f.2.2.1) (restOf l 0) := ⟨_, rfl⟩
 obtain ⟨r3, h3⟩ : ∃ r, r = firstH ((1 : Nat) : Int) (fun e => slowV s e.1 e.2 f.2.2.2.2.1) (restOf l 0) := ⟨_, rfl⟩
 obtain ⟨r4, h4⟩ : ∃ r, r = firstH ((1 : Nat) : Int) (fun e => slowV s e.2 e.1 f.2.2.2.2.2) (restOf l 0) := ⟨_, rfl⟩
 obtain ⟨r5, h5⟩ : ∃ r, r = cond (heldV s l 0) (-1) (0 : Int) := ⟨_, rfl⟩
 obtain ⟨r6, h6⟩ : ∃ r, r = firstH ((l.length : Int) - 1) (fun e => coldV s e.2 f.1) (restOf l 0) := ⟨_, rfl⟩
 have eB : ref03u_Broken (k, f, l, place) = cond (decide (0 ≤ r1)) (1, r1) (cond (decide (0 ≤ r2)) (2, r2) (cond (decide (0 ≤ r3)) (3, r3) (cond (decide (0 ≤ r4)) (4, r4) (cond (decide (0 ≤ r5)) (5, r5) (cond (decide (0 ≤ r6)) (6, r6) (0, 0)))))) := by
  rw [h1, h2, h3, h4, h5, h6, hs]; rfl
 have mp : ∀ i, i < l.length → ref03u_Most_p (k, place, l.getD i 0) := fun i hi => ⟨ho, L.2 _ (getD_mem l 0 i hi)⟩
 have op : ∀ i j, i < l.length → j < l.length → ref03u_More_p (k, place, l.getD i 0, l.getD j 0) := fun i j hi hj => ⟨ho, L.2 _ (getD_mem l 0 i hi), L.2 _ (getD_mem l 0 j hj)⟩
 have ec : ∀ set heat, decide (1000 * heat < ref03u_Most (k, place, set)) = !coldV s set heat := fun set heat => by
  rw [hs]; exact lt_le _ _
 have es : ∀ a b by_, 0 ≤ by_ → decide (1000 * by_ < ref03u_More (k, place, a, b)) = !slowV s a b by_ := fun a b by_ hb => by
  rw [hs]; exact more_le (by omega)
 have q1 : r1 = cond (!coldV s (l.getD 0 0) f.1) 0 (-1) := by
  rw [h1]
  cases l with
  | nil => simp at hlen
  | cons a l => rfl
 refine ⟨⟨by show (0 : Int) ≤ 0; omega, by show (0 : Int) < (l.length : Int); omega⟩, mp 0 (by omega), by simp only [Z.in64]; omega, fun hv => ?_, fun hv => ?_⟩
 ·have hv : decide (1000 * f.1 < ref03u_Most (k, place, l.getD 0 0)) = true := hv
  rw [ec] at hv
  rw [hv] at q1
  show ((1 : Int), (0 : Int)) = ref03u_Broken (k, f, l, place)
  rw [eB, at_cond 0 q1, q1]; rfl
 have hv : decide (1000 * f.1 < ref03u_Most (k, place, l.getD 0 0)) = false := hv
 rw [ec] at hv
 rw [hv] at q1
 rw [no_cond q1] at eB
 refine ⟨fun q => ∃ i : Nat, q = (i : Int) ∧ i ≤ l.length ∧ r2 = firstH 0 (fun e => coldV s e.2 f.2.2.1) (restOf l i), fun q => ((l.length : Int) - q).toNat, ⟨0, rfl, Nat.zero_le _, h2⟩, ?_⟩
 rintro _ ⟨i, rfl, g1, g2⟩
 refine ⟨fun hd => ?_, fun hd => ?_⟩
 ·have hd : (i : Int) < (l.length : Int) := of_decide_eq_true hd
  rw [firstH_step (by omega), decide_eq_true (show (0 : Int) ≤ (i : Int) by omega), Bool.true_and] at g2
  refine ⟨⟨by omega, hd⟩, mp i (by omega), by simp only [Z.in64]; omega, fun hv => ?_, fun hv => ⟨by simp only [Z.in64]; omega, ⟨i + 1, by omega, by omega, ?_⟩, by simp only; omega⟩⟩
  ·have hv : decide (1000 * f.2.2.1 < ref03u_Most (k, place, l.getD i 0)) = true := hv
   rw [ec] at hv
   rw [hv] at g2
   show ((2 : Int), (i : Int)) = ref03u_Broken (k, f, l, place)
   rw [eB, at_cond i g2, g2]; rfl
  ·have hv : decide (1000 * f.2.2.1 < ref03u_Most (k, place, l.getD i 0)) = false := hv
   rw [ec] at hv
   rw [hv] at g2
   exact g2
 have hd : ¬ (i : Int) < (l.length : Int) := of_decide_eq_false hd
 rw [firstH_end (by omega)] at g2
 rw [no_cond g2] at eB
 have q3 := h3
 rw [firstH_skip (i := 1) (Nat.le_refl _) hlen] at q3
 refine ⟨fun q => ∃ i : Nat, q = (i : Int) ∧ 1 ≤ i ∧ i ≤ l.length ∧ r3 = firstH ((1 : Nat) : Int) (fun e => slowV s e.1 e.2 f.2.2.2.2.1) (restOf l i), fun q => ((l.length : Int) - q).toNat, ⟨1, rfl, Nat.le_refl _, hlen, q3⟩, ?_⟩
 rintro _ ⟨i, rfl, g0, g1, g2⟩
 refine ⟨fun hd => ?_, fun hd => ?_⟩
 ·have hd : (i : Int) < (l.length : Int) := of_decide_eq_true hd
  rw [firstH_step (by omega), decide_eq_true (show ((1 : Nat) : Int) ≤ (i : Int) by omega), Bool.true_and] at g2
  have ei : ((i : Int) - 1).toNat = i - 1 := by omega
  have o1 : ref03u_More_p (k, place, l.getD ((i : Int) - 1).toNat 0, l.getD i 0) := by rw [ei]; exact op _ _ (by omega) (by omega)
  refine ⟨by simp only [Z.in64]; omega, ⟨by omega, by show (i : Int) - 1 < (l.length : Int); omega⟩, ⟨by omega, hd⟩, o1, by simp only [Z.in64]; omega, fun hv => ?_, fun hv => ⟨by simp only [Z.in64]; omega, ⟨i + 1, by omega, by omega, by omega, ?_⟩, by simp only; omega⟩⟩
  ·have hv : decide (1000 * f.2.2.2.2.1 < ref03u_More (k, place, l.getD ((i : Int) - 1).toNat 0, l.getD i 0)) = true := hv
   rw [es _ _ _ (by omega), ei] at hv
   rw [hv] at g2
   show ((3 : Int), (i : Int)) = ref03u_Broken (k, f, l, place)
   rw [eB, at_cond i g2, g2]; rfl
  ·have hv : decide (1000 * f.2.2.2.2.1 < ref03u_More (k, place, l.getD ((i : Int) - 1).toNat 0, l.getD i 0)) = false := hv
   rw [es _ _ _ (by omega), ei] at hv
   rw [hv] at g2
   exact g2
 have hd : ¬ (i : Int) < (l.length : Int) := of_decide_eq_false hd
 rw [firstH_end (by omega)] at g2
 rw [no_cond g2] at eB
 have q4 := h4
 rw [firstH_skip (i := 1) (Nat.le_refl _) hlen] at q4
 refine ⟨fun q => ∃ i : Nat, q = (i : Int) ∧ 1 ≤ i ∧ i ≤ l.length ∧ r4 = firstH ((1 : Nat) : Int) (fun e => slowV s e.2 e.1 f.2.2.2.2.2) (restOf l i), fun q => ((l.length : Int) - q).toNat, ⟨1, rfl, Nat.le_refl _, hlen, q4⟩, ?_⟩
 rintro _ ⟨i, rfl, g0, g1, g2⟩
 refine ⟨fun hd => ?_, fun hd => ?_⟩
 ·have hd : (i : Int) < (l.length : Int) := of_decide_eq_true hd
  rw [firstH_step (by omega), decide_eq_true (show ((1 : Nat) : Int) ≤ (i : Int) by omega), Bool.true_and] at g2
  have ei : ((i : Int) - 1).toNat = i - 1 := by omega
  have o1 : ref03u_More_p (k, place, l.getD i 0, l.getD ((i : Int) - 1).toNat 0) := by rw [ei]; exact op _ _ (by omega) (by omega)
  refine ⟨⟨by omega, hd⟩, by simp only [Z.in64]; omega, ⟨by omega, by show (i : Int) - 1 < (l.length : Int); omega⟩, o1, by simp only [Z.in64]; omega, fun hv => ?_, fun hv => ⟨by simp only [Z.in64]; omega, ⟨i + 1, by omega, by omega, by omega, ?_⟩, by simp only; omega⟩⟩
  ·have hv : decide (1000 * f.2.2.2.2.2 < ref03u_More (k, place, l.getD i 0, l.getD ((i : Int) - 1).toNat 0)) = true := hv
   rw [es _ _ _ (by omega), ei] at hv
   rw [hv] at g2
   show ((4 : Int), (i : Int)) = ref03u_Broken (k, f, l, place)
   rw [eB, at_cond i g2, g2]; rfl
  ·have hv : decide (1000 * f.2.2.2.2.2 < ref03u_More (k, place, l.getD i 0, l.getD ((i : Int) - 1).toNat 0)) = false := hv
   rw [es _ _ _ (by omega), ei] at hv
   rw [hv] at g2
   exact g2
 have hd : ¬ (i : Int) < (l.length : Int) := of_decide_eq_false hd
 rw [firstH_end (by omega)] at g2
 rw [no_cond g2] at eB
 have hrun : decide (ref03u_soaked (k, f, l, place) < f.2.2.2.1) = !heldV s l 0 := by
  rw [hs]
  exact run_held (s := standAt k f place) (by show 1 ≤ f.2.2.2.1; omega) ⟨by omega, by show 0 < f.2.2.2.1; omega⟩ (by show 0 < f.2.2.2.1; omega)
 have el : ((l.length : Int) - 1).toNat = l.length - 1 := by omega
 have ml : ref03u_Most_p (k, place, l.getD ((l.length : Int) - 1).toNat 0) := by rw [el]; exact mp _ (by omega)
 have q6 : r6 = cond (!coldV s (l.getD (l.length - 1) 0) f.1) ((l.length : Int) - 1) (-1) := by
  have e1 : (l.length : Int) - 1 = ((l.length - 1 : Nat) : Int) := by omega
  rw [h6, e1, firstH_skip (i := l.length - 1) (Nat.le_refl _) (by omega), firstH_step (by omega), decide_eq_true (Int.le_refl _), Bool.true_and, show l.length - 1 + 1 = l.length by omega, firstH_end (Nat.le_refl _)]
 refine ⟨⟨ho, hf, hl⟩, fun hv => ?_, fun hv => ?_⟩
 ·have hv : decide (ref03u_soaked (k, f, l, place) < f.2.2.2.1) = true := hv
  rw [hrun] at hv
  rw [not_iff.1.1 hv] at h5
  show ((5 : Int), (0 : Int)) = ref03u_Broken (k, f, l, place)
  rw [eB, at_cond 0 h5, h5]; rfl
 have hv : decide (ref03u_soaked (k, f, l, place) < f.2.2.2.1) = false := hv
 rw [hrun] at hv
 rw [not_iff.2.1 hv] at h5
 rw [no_cond h5] at eB
 refine ⟨by simp only [Z.in64]; omega, ⟨by show (0 : Int) ≤ (l.length : Int) - 1; omega, by show (l.length : Int) - 1 < (l.length : Int); omega⟩, ml, by simp only [Z.in64]; omega, fun hv => ⟨by simp only [Z.in64]; omega, ?_⟩, fun hv => ?_⟩
 ·have hv : decide (1000 * f.1 < ref03u_Most (k, place, l.getD ((l.length : Int) - 1).toNat 0)) = true := hv
  rw [ec, el] at hv
  rw [hv, cond_true] at q6
  show ((6 : Int), (l.length : Int) - 1) = ref03u_Broken (k, f, l, place)
  have q7 : r6 = ((l.length - 1 : Nat) : Int) := by rw [q6]; omega
  rw [eB, at_cond (l.length - 1) q7, q6]
 ·have hv : decide (1000 * f.1 < ref03u_Most (k, place, l.getD ((l.length : Int) - 1).toNat 0)) = false := hv
  rw [ec, el] at hv
  rw [hv, cond_false] at q6
  show ((0 : Int), (0 : Int)) = ref03u_Broken (k, f, l, place)
  rw [eB, no_cond q6]
end Go.Fire
