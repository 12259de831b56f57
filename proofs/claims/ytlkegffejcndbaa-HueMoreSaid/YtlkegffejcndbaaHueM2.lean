/-
  Chapter 8: the law HueMore, its condition.
-/
import Derived.Test.YtlkegffejcndbaaHueM1
set_option linter.all false


set_option maxRecDepth 100000
namespace Go.Hue
open Go Go.Sx

theorem stv_le {d d' : Hue → Int} {r r' w w' : Int} {l l' : List Hue} {p : List Turn} {k i : Nat} (hk : k < i) (hd : d (hueAt l p k) ≤ d' (hueAt l' p k)) (hr : r' ≤ r) (hw : w' ≤ w) (ht : ∀ i, 0 ≤ (p.getD i (0, 0)).2 ∧ (p.getD i (0, 0)).2 ≤ 2) : stv d r w l p k i ≤ stv d' r' w' l' p k i := by
  unfold stv
  have q1 := Int.mul_le_mul_of_nonneg_right hw (wsum_bd ht (i - k) k).1
  have q2 := Int.mul_le_mul_of_nonneg_right hr (show (0 : Int) ≤ (i : Int) - 1 - k by omega)
  omega
theorem v9 (x : Mill × (List Hue) × (List Turn) × Int × Int) (hp : k9.pre x) : V9 x := by
  obtain ⟨m, l, plan, turn, by_⟩ := x
  obtain ⟨⟨ht0, ht1⟩, hb0, hb1⟩ : (0 ≤ turn ∧ turn ≤ 255) ∧ (0 ≤ by_ ∧ by_ ≤ 255) := hp
  have eA : law08u_awake () = true := rfl
  have eH : law08u_HueMore (m, l, plan, turn, by_) = true := rfl
  have eV : ref08u_Valid (m, l) = validB m l := rfl
  have eP : ref08u_Plan (l, plan) = planB l plan := rfl
  have lens : ∀ c : Bool, ((((law08u_large (l, 6) || decide ((16 : Int) < (plan.length : Int))) || ((l.length : Int) == 0)) || c) = false) → l.length ≤ big ∧ plan.length ≤ big ∧ l.length ≠ 0 ∧ c = false := by
    intro c h
    simp only [law08u_large, Bool.or_eq_false_iff, decide_eq_false_iff_not] at h
    have h4 : ((l.length : Int) == 0) = false := h.1.2
    refine ⟨by simp only [big]; omega, by simp only [big]; omega, ?_, h.2⟩
    intro h0
    rw [h0] at h4; cases h4
  refine ⟨trivial, fun h => (lens false (by rw [Bool.or_false]; exact h)).1, fun h => ⟨(lens _ h).1, (lens _ h).2.1⟩, fun _ => ⟨trivial, rfl⟩, fun h => ?_⟩
  have h : ((((law08u_large (l, 6) || decide ((16 : Int) < (plan.length : Int))) || ((l.length : Int) == 0)) || (!validB m l)) || (!planB l plan)) = false := h
  rw [Bool.or_assoc] at h
  obtain ⟨hlb, hpb, hl0, hc⟩ := lens _ h
  simp only [Bool.or_eq_false_iff, Bool.not_eq_false'] at hc
  obtain ⟨hv, hpl⟩ := hc
  have H := valid_iff.1 hv
  have HP := plan_iff.1 hpl
  have hl6 := H.len
  have hp12 := HP.len
  have hrun := H.run
  have hwash := H.wash
  obtain ⟨kk, hkk, hkl⟩ : ∃ kk : Nat, Int.tmod turn (l.length : Int) = (kk : Int) ∧ kk < l.length := by
    have h2 := Int.emod_nonneg turn (show (l.length : Int) ≠ 0 by omega)
    have h3 := Int.emod_lt_of_pos turn (show (0 : Int) < (l.length : Int) by omega)
    exact ⟨(turn % (l.length : Int)).toNat, by rw [Int.tmod_eq_emod_of_nonneg ht0]; omega, by omega⟩
  have hnil : (List.replicate 0 (((0 : Int), (0 : Int)), (0 : Int), (0 : Int)) ++ l) = l := rfl
  have e9 : Int.tmod by_ 9 = by_ % 9 := Int.tmod_eq_emod_of_nonneg hb0
  have e7 : Int.tmod by_ 7 = by_ % 7 := Int.tmod_eq_emod_of_nonneg hb0
  dsimp only
  rw [hkk, hnil, e9, e7, eA, eH]
  have etn : Int.toNat (kk : Int) = kk := rfl
  rw [etn]
  have hh := H.hue _ (getD_mem l ((0, 0), 0, 0) kk hkl)
  obtain ⟨hu, hhu⟩ : ∃ hu : Hue, hu = l.getD kk ((0, 0), 0, 0) := ⟨_, rfl⟩
  rw [← hhu] at hh ⊢
  obtain ⟨own, hown⟩ : ∃ own : Mill, own = ((m.1.1, max m.1.1 (m.1.2 - by_ % 9)), (min m.2.1.2 (m.2.1.1 + by_ % 7), m.2.1.2), m.2.2) := ⟨_, rfl⟩
  obtain ⟨less, hless⟩ : ∃ less : List Hue, less = l.set kk ((min hu.1.2 (hu.1.1 + by_), hu.1.2), hu.2) := ⟨_, rfl⟩
  rw [← hown, ← hless]
  have hlesl : less.length = l.length := by rw [hless, List.length_set]
  have hlg : ∀ j, less.getD j ((0, 0), 0, 0) = if kk = j ∧ kk < l.length then ((min hu.1.2 (hu.1.1 + by_), hu.1.2), hu.2) else l.getD j ((0, 0), 0, 0) := fun j => by rw [hless]; exact getD_set _ _ _ _ _
  have H' : Valid own less := by
    rw [hown]
    refine ⟨by rw [hlesl]; exact hl6, ⟨hrun.1, by show m.1.1 ≤ max _ _; omega, by show max m.1.1 (m.1.2 - by_ % 9) ≤ _; omega⟩, ⟨by show 0 ≤ min m.2.1.2 (m.2.1.1 + by_ % 7); omega, by show min _ _ ≤ m.2.1.2; omega, hwash.2.2⟩, H.price, fun g hg => ?_⟩
    rw [hless] at hg
    rcases List.mem_or_eq_of_mem_set hg with hg | rfl
    · exact H.hue g hg
    · exact ⟨⟨by show 0 ≤ min hu.1.2 (hu.1.1 + by_); omega, by show min _ _ ≤ hu.1.2; omega, hh.1.2.2⟩, hh.2⟩
  have hv' := valid_iff.2 H'
  have hpl' : planB less plan = true := plan_iff.2 ⟨hp12, fun t ht => by rw [hlesl]; exact HP.turn t ht⟩
  have e1 := stains_ok hv hpl
  have e2 := stains_ok hv' hpl'
  rw [e1, e2]
  have L1 : ((List.range plan.length).map (inS m l plan)).length = plan.length := by rw [List.length_map, List.length_range]
  have L2 : ((List.range plan.length).map (inS own less plan)).length = plan.length := by rw [List.length_map, List.length_range]
  refine ⟨trivial, roomy_of (by omega) (by omega) (by omega), by omega, ⟨by omega, by omega⟩, ⟨by omega, by omega⟩, by simp only [Z.in64]; omega, ⟨by omega, by omega⟩, by omega, by simp only [Z.in64]; omega, by omega, by simp only [Z.in64]; omega, trivial, fun hx => ?_, fun _ => ?_⟩
  · rw [L1, L2] at hx
    simp at hx
  refine ⟨fun s => 0 ≤ s ∧ s ≤ (plan.length : Int), fun s => ((plan.length : Int) - s).toNat, ⟨by omega, by omega⟩, ?_⟩
  rintro j0 ⟨g1, g2⟩
  obtain ⟨j, rfl⟩ : ∃ n : Nat, j0 = (n : Int) := ⟨j0.toNat, by omega⟩
  refine ⟨fun h => ?_, fun _ => ?_⟩
  · have h : (j : Int) < (((List.range plan.length).map (inS m l plan)).length : Int) := of_decide_eq_true h
    rw [L1] at h
    have f1 : ((List.range plan.length).map (inS m l plan)).getD (Int.toNat (j : Int)) (0, 0) = inS m l plan j := range_getD _ _ (by omega)
    have f2 : ((List.range plan.length).map (inS own less plan)).getD (Int.toNat (j : Int)) (0, 0) = inS own less plan j := range_getD _ _ (by omega)
    have hue_lo : ∀ k, dLo (hueAt l plan k) ≤ dLo (hueAt less plan k) ∧ dHi (hueAt less plan k) = dHi (hueAt l plan k) := by
      intro k
      unfold hueAt
      rw [hlg]
      split
      · rename_i hj
        rw [← hj.1, ← hhu]
        exact ⟨by show hu.1.1 ≤ min hu.1.2 (hu.1.1 + by_); omega, rfl⟩
      · exact ⟨Int.le_refl _, rfl⟩
    have lo : (inS m l plan j).1 ≤ (inS own less plan j).1 := great_mono _ _ 0 j fun k hk => stv_le hk (hue_lo k).1 (by rw [hown]; show max m.1.1 (m.1.2 - by_ % 9) ≤ m.1.2; omega) (by rw [hown]; exact Int.le_refl _) (turnD HP)
    have hi : (inS own less plan j).2 ≤ (inS m l plan j).2 := great_mono _ _ 0 j fun k hk => stv_le hk (Int.le_of_eq (hue_lo k).2) (by rw [hown]; exact Int.le_refl _) (by rw [hown]; show m.2.1.1 ≤ min m.2.1.2 (m.2.1.1 + by_ % 7); omega) (turnD HP)
    rw [f1, f2]
    have d1 : decide ((inS own less plan j).1 < (inS m l plan j).1) = false := decide_eq_false (by omega)
    have d2 : decide ((inS m l plan j).2 < (inS own less plan j).2) = false := decide_eq_false (by omega)
    rw [d1, d2, L1, L2]
    refine ⟨⟨g1, h⟩, ⟨g1, h⟩, fun _ => ⟨g1, h⟩, fun _ => ⟨g1, h⟩, fun hx => (by cases hx), fun _ => ⟨by simp only [Z.in64]; omega, rfl, rfl, ⟨by omega, by omega⟩, show ((plan.length : Int) - ((j : Int) + 1)).toNat < ((plan.length : Int) - (j : Int)).toNat by omega⟩⟩
  obtain ⟨tn, htn⟩ : ∃ tn : Nat, turn = (tn : Int) := ⟨turn.toNat, by omega⟩
  refine ⟨fun s => ∃ i : Nat, s.2 = (i : Int) ∧ i ≤ l.length ∧ s.1 = (List.range i).map fun i => l.getD ((i + tn) % l.length) ((0, 0), 0, 0), fun s => ((l.length : Int) - s.2).toNat, ⟨0, rfl, Nat.zero_le _, rfl⟩, ?_⟩
  rintro ⟨out, i0⟩ ⟨i, hi, hil, ho⟩
  simp only at hi ho
  subst hi ho
  have em : Int.tmod ((i : Int) + turn) (l.length : Int) = (((i + tn) % l.length : Nat) : Int) := by
    rw [Int.tmod_eq_emod_of_nonneg (by omega), htn, Int.natCast_emod]; rfl
  have eml := Nat.mod_lt (i + tn) (show 0 < l.length by omega)
  refine ⟨fun h => ?_, fun h => ?_⟩
  · have h : (i : Int) < (l.length : Int) := of_decide_eq_true h
    refine ⟨by simp only [Z.in64]; omega, by show (l.length : Int) ≠ 0; omega, ⟨by show (0 : Int) ≤ Int.tmod ((i : Int) + turn) (l.length : Int); rw [em]; omega, by show Int.tmod ((i : Int) + turn) (l.length : Int) < (l.length : Int); rw [em]; omega⟩, roomy_of (by omega) (by omega) ?_, by simp only [Z.in64]; omega, rfl, rfl, ⟨i + 1, by show (i : Int) + 1 = ((i + 1 : Nat) : Int); omega, by omega, ?_⟩, ?_⟩
    · simp only [List.length_append, List.length_set, List.length_replicate, List.length_map, List.length_range]; omega
    · show (List.range i).map _ ++ [l.getD (Int.toNat (Int.tmod ((i : Int) + turn) (l.length : Int))) ((0, 0), 0, 0)] = _
      rw [em, List.range_succ, List.map_append]; rfl
    · show ((l.length : Int) - ((i : Int) + 1)).toNat < ((l.length : Int) - (i : Int)).toNat; omega
  · have h : ¬ (i : Int) < (l.length : Int) := of_decide_eq_false h
    have hi : i = l.length := by omega
    subst hi
    have e := rot_best (m := m) (l := l) hv tn
    refine ⟨trivial, trivial, fun _ => trivial, ?_⟩
    show ((((bestOut m l).2.1 == (bestOut m (rotL l tn)).2.1) && ((bestOut m l).2.2 == (bestOut m (rotL l tn)).2.2)) && true) = true
    rw [e]
    simp
end Go.Hue
