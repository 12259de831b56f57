/-
  Chapter 8: the law HueEnds, its condition.
-/
import Derived.Test.YtlkegffejcndbaaHueE1
set_option linter.all false


set_option maxRecDepth 100000
namespace Go.Hue
open Go Go.Sx

theorem planB_take {l : List Hue} {plan : List Turn} (h : planB l plan = true) (n : Nat) : planB l (plan.take n) = true := by
  have H := plan_iff.1 h
  exact plan_iff.2 ⟨Nat.le_trans (by rw [List.length_take]; omega) H.len, fun t ht => H.turn t (List.mem_of_mem_take ht)⟩
theorem planB_set {l : List Hue} {plan : List Turn} (h : planB l plan = true) (k : Nat) (t : Turn) (ht : 0 ≤ t.1 ∧ t.1 < (l.length : Int) ∧ 0 ≤ t.2 ∧ t.2 ≤ 2) : planB l (plan.set k t) = true := by
  have H := plan_iff.1 h
  refine plan_iff.2 ⟨by rw [List.length_set]; exact H.len, fun u hu => ?_⟩
  rcases List.mem_or_eq_of_mem_set hu with hu | rfl
  · exact H.turn u hu
  · exact ht
theorem getD_set {α : Type} (l : List α) (d : α) (k j : Nat) (t : α) : (l.set k t).getD j d = if k = j ∧ k < l.length then t else l.getD j d := by
  simp only [List.getD, List.getElem?_set]
  by_cases h : k = j
  · subst h
    by_cases hk : k < l.length
    · simp [hk]
    · simp [hk]
  · simp [h]
theorem getD_take {α : Type} (l : List α) (d : α) {n j : Nat} (h : j < n) : (l.take n).getD j d = l.getD j d := by
  simp [List.getD, List.getElem?_take, h]
theorem v6 (x : Mill × (List Hue) × (List Turn) × Int) (hp : k6.pre x) : V6 x := by
  obtain ⟨m, l, plan, which⟩ := x
  obtain ⟨hw0, hw1⟩ : 0 ≤ which ∧ which ≤ 255 := hp
  have eA : law08u_awake () = true := rfl
  have eH : law08u_HueEnds (m, l, plan, which) = true := rfl
  refine ⟨trivial, fun _ => ⟨trivial, rfl⟩, fun h => ⟨trivial, ?_⟩⟩
  have h : (law08u_large (l, 6) || decide ((16 : Int) < (plan.length : Int))) = false := h
  simp only [law08u_large, Bool.or_eq_false_iff, decide_eq_false_iff_not] at h
  have hb1 : l.length ≤ big := by simp only [big]; omega
  have hb2 : plan.length ≤ big := by simp only [big]; omega
  dsimp only
  have eV : ref08u_Valid (m, l) = validB m l := rfl
  have eP : ref08u_Plan (l, plan) = planB l plan := rfl
  rw [eV, eP, eA, eH]
  cases hv : validB m l with
  | false =>
    have e : hue_Stains (m, l, plan) = ([], 1) := by show stainsV m l plan = _; rw [stainsV, hv]; rfl
    rw [e]
    exact ⟨fun _ => ⟨fun _ => hb1, fun _ => trivial, rfl⟩, fun h => (by cases h)⟩
  | true =>
  cases hpl : planB l plan with
  | false =>
    have e : hue_Stains (m, l, plan) = ([], 2) := by show stainsV m l plan = _; rw [stainsV, hv, hpl]; rfl
    rw [e]
    exact ⟨fun _ => ⟨fun _ => hb1, fun _ => trivial, rfl⟩, fun h => (by cases h)⟩
  | true =>
  have HV := valid_iff.1 hv
  have HP := plan_iff.1 hpl
  have hl6 := HV.len
  have hp12 := HP.len
  obtain ⟨S, hS⟩ : ∃ S, S = (List.range plan.length).map (inS m l plan) := ⟨_, rfl⟩
  have e : hue_Stains (m, l, plan) = (S, 0) := by rw [stains_ok hv hpl, hS]
  have hSl : S.length = plan.length := by rw [hS, List.length_map, List.length_range]
  have hSg : ∀ i, i < plan.length → S.getD i (0, 0) = inS m l plan i := fun i hi => by rw [hS]; exact range_getD _ _ hi
  rw [e]
  refine ⟨fun h => (by cases h), fun _ => ⟨hb1, fun _ => ⟨hb1, hb2⟩, fun h => ?_, fun _ => ?_⟩⟩
  · have h : (!((S.length : Int) == (plan.length : Int))) = true := h
    rw [hSl] at h
    simp at h
  refine ⟨fun s => ∃ i : Nat, s.2.2 = (i : Int) ∧ i ≤ l.length ∧ s.1 = (l.take i).map dLo ∧ s.2.1 = (l.take i).map dHi, fun s => ((l.length : Int) - s.2.2).toNat, ⟨0, rfl, Nat.zero_le _, rfl, rfl⟩, ?_⟩
  rintro ⟨lo, hi, i0⟩ ⟨i, hi0, hil, hlo, hhi⟩
  simp only at hi0 hlo hhi
  subst hi0 hlo hhi
  refine ⟨fun h => ?_, fun h => ?_⟩
  · have h : (i : Int) < (l.length : Int) := of_decide_eq_true h
    have hlt : ∀ f : Hue → Int, ((((l.take i).map f) ++ ((List.replicate 1 0).set 0 (f (l.getD i ((0, 0), 0, 0))))).length : Int) ≤ 1000001 := by
      intro f
      simp only [List.length_append, List.length_map, List.length_take, List.length_set, List.length_replicate]
      omega
    refine ⟨⟨by show 0 ≤ (i : Int); omega, h⟩, roomy_of (by omega) (by omega) (hlt dLo), ⟨by show 0 ≤ (i : Int); omega, h⟩, roomy_of (by omega) (by omega) (hlt dHi), by simp only [Z.in64]; omega, ⟨i + 1, by show (i : Int) + 1 = ((i + 1 : Nat) : Int); omega, by omega, ?_, ?_⟩, ?_⟩
    · rw [take_succ l ((0, 0), 0, 0) i (by omega), List.map_append]; rfl
    · rw [take_succ l ((0, 0), 0, 0) i (by omega), List.map_append]; rfl
    · show ((l.length : Int) - ((i : Int) + 1)).toNat < ((l.length : Int) - (i : Int)).toNat; omega
  have h : ¬ (i : Int) < (l.length : Int) := of_decide_eq_false h
  have hi : i = l.length := by omega
  subst hi
  rw [List.take_length]
  have hdp : ∀ (f : Hue → Int) (r w : Int), (∀ h ∈ l, 0 ≤ f h ∧ f h ≤ 10000) → (0 ≤ r ∧ r ≤ 10000) → (0 ≤ w ∧ w ≤ 10000) → law08u_deep_p (plan, r, w, l.map f) := by
    intro f r w hf hr hw
    refine ⟨hp12, fun t ht => ?_, hr, hw, fun d hd => ?_⟩
    · show 0 ≤ t.1 ∧ t.1 < ((l.map f).length : Int) ∧ 0 ≤ t.2 ∧ t.2 ≤ 2
      rw [List.length_map]
      exact HP.turn t ht
    · obtain ⟨h, hh, rfl⟩ := List.mem_map.1 hd
      exact hf h hh
  have hrun := HV.run
  have hwash := HV.wash
  have dlo : law08u_deep (plan, m.1.2, m.2.1.2, l.map dLo) = (List.range plan.length).map fun i => (inS m l plan i).1 := List.map_congr_left fun i _ => deep_lo m l plan i
  have dhi : law08u_deep (plan, m.1.1, m.2.1.1, l.map dHi) = (List.range plan.length).map fun i => (inS m l plan i).2 := List.map_congr_left fun i _ => deep_hi m l plan i
  refine ⟨hdp dLo _ _ (fun h hh => by have := HV.hue h hh; show 0 ≤ h.1.1 ∧ h.1.1 ≤ 10000; omega) ⟨by show 0 ≤ m.1.2; omega, by show m.1.2 ≤ _; omega⟩ ⟨by show 0 ≤ m.2.1.2; omega, by show m.2.1.2 ≤ _; omega⟩,
    hdp dHi _ _ (fun h hh => by have := HV.hue h hh; show 0 ≤ h.1.2 ∧ h.1.2 ≤ 10000; omega) ⟨by show 0 ≤ m.1.1; omega, by show m.1.1 ≤ _; omega⟩ ⟨by show 0 ≤ m.2.1.1; omega, by show m.2.1.1 ≤ _; omega⟩, ?_⟩
  rw [dlo, dhi]
  refine ⟨fun s => 0 ≤ s ∧ s ≤ (plan.length : Int), fun s => ((plan.length : Int) - s).toNat, ⟨by omega, by omega⟩, ?_⟩
  rintro j0 ⟨g1, g2⟩
  obtain ⟨j, rfl⟩ : ∃ n : Nat, j0 = (n : Int) := ⟨j0.toNat, by omega⟩
  refine ⟨fun h => ?_, fun h => ?_⟩
  · have h : (j : Int) < (plan.length : Int) := of_decide_eq_true h
    have eq1 : ((List.range plan.length).map fun i => (inS m l plan i).1).getD (Int.toNat (j : Int)) 0 = (inS m l plan j).1 := range_getD _ _ (by omega)
    have eq2 : ((List.range plan.length).map fun i => (inS m l plan i).2).getD (Int.toNat (j : Int)) 0 = (inS m l plan j).2 := range_getD _ _ (by omega)
    have eq3 : S.getD (Int.toNat (j : Int)) (0, 0) = inS m l plan j := hSg j (by omega)
    refine ⟨⟨g1, by rw [hSl]; exact h⟩, ⟨g1, by rw [List.length_map, List.length_range]; exact h⟩, ⟨g1, by rw [List.length_map, List.length_range]; exact h⟩, trivial, fun hx => ?_, fun _ => ⟨by simp only [Z.in64]; omega, rfl, rfl, ⟨by omega, by omega⟩, show ((plan.length : Int) - ((j : Int) + 1)).toNat < ((plan.length : Int) - (j : Int)).toNat by omega⟩⟩
    rw [eq1, eq2, eq3] at hx
    simp [law08u_span] at hx
  refine ⟨fun _ => ⟨trivial, rfl⟩, fun hz => ?_⟩
  have hn0 : plan.length ≠ 0 := by
    intro h0
    rw [h0] at hz
    cases hz
  -- one wash more, one turn less
  obtain ⟨kk, hkk⟩ : ∃ kk : Nat, Int.tmod which (plan.length : Int) = (kk : Int) ∧ kk < plan.length := by
    have h1 : Int.tmod which (plan.length : Int) = which % (plan.length : Int) := Int.tmod_eq_emod_of_nonneg hw0
    have h2 := Int.emod_nonneg which (show (plan.length : Int) ≠ 0 by omega)
    have h3 := Int.emod_lt_of_pos which (show (0 : Int) < (plan.length : Int) by omega)
    exact ⟨(which % (plan.length : Int)).toNat, by rw [h1]; omega, by omega⟩
  obtain ⟨hk1, hk2⟩ := hkk
  rw [hk1]
  have hnil : (List.replicate 0 ((0 : Int), (0 : Int)) ++ plan) = plan := rfl
  rw [hnil]
  have etn : Int.toNat (kk : Int) = kk := rfl
  rw [etn]
  have ht := HP.turn _ (getD_mem plan (0, 0) kk hk2)
  obtain ⟨more, hmore⟩ : ∃ more, more = plan.set kk ((plan.getD kk (0, 0)).1, min 2 ((plan.getD kk (0, 0)).2 + 1)) := ⟨_, rfl⟩
  rw [← hmore]
  have hmp : planB l more = true := by
    rw [hmore]
    exact planB_set hpl kk _ ⟨ht.1, ht.2.1, by show 0 ≤ min 2 _; omega, by show min 2 _ ≤ 2; omega⟩
  have hml : more.length = plan.length := by rw [hmore, List.length_set]
  have hmg : ∀ j, more.getD j (0, 0) = if kk = j ∧ kk < plan.length then ((plan.getD kk (0, 0)).1, min 2 ((plan.getD kk (0, 0)).2 + 1)) else plan.getD j (0, 0) := fun j => by rw [hmore]; exact getD_set _ _ _ _ _
  have hm1 : ∀ j, (plan.getD j (0, 0)).1 = (more.getD j (0, 0)).1 := by
    intro j
    rw [hmg j]
    split
    · rename_i hj; rw [← hj.1]
    · rfl
  have hm2 : ∀ j, (plan.getD j (0, 0)).2 ≤ (more.getD j (0, 0)).2 := by
    intro j
    rw [hmg j]
    split
    · rename_i hj; rw [← hj.1]; show _ ≤ min 2 _; omega
    · exact Int.le_refl _
  have en1 : Int.toNat ((plan.length : Int) - 1) = plan.length - 1 := by omega
  rw [en1]
  have etk : hue_Stains (m, l, more) = ((List.range plan.length).map (inS m l more), 0) := by rw [stains_ok hv hmp, hml]
  have htl : (plan.take (plan.length - 1)).length = plan.length - 1 := by rw [List.length_take]; omega
  have eu : hue_Stains (m, l, plan.take (plan.length - 1)) = ((List.range (plan.length - 1)).map (inS m l plan), 0) := by
    rw [stains_ok hv (planB_take hpl _), htl]
    congr 1
    refine List.map_congr_left fun i hi => inS_congr fun j hj => ?_
    have := List.mem_range.1 hi
    exact getD_take _ _ (by omega)
  rw [etk, eu]
  have hSt : S.take (Int.toNat ((S.length : Int) - 1)) = (List.range (plan.length - 1)).map (inS m l plan) := by
    rw [hSl, en1, hS, ← List.map_take, List.take_range]
    congr 2
    omega
  rw [hSt]
  have hsp : ref08u_Spans ((List.range (plan.length - 1)).map (inS m l plan), (List.range (plan.length - 1)).map (inS m l plan)) = true := decide_eq_true rfl
  have e0 : (!((0 : Int) == 0)) = false := rfl
  refine ⟨by omega, roomy_of (by omega) (by omega) (by omega), ⟨by omega, by omega⟩, by simp only [Z.in64]; omega, ⟨by omega, by omega⟩, trivial, by simp only [Z.in64]; omega, ⟨by omega, by omega⟩, trivial, fun _ => ?_, fun _ => ?_, fun _ => ?_, fun hx => ?_, fun _ => ?_⟩
  · rw [hSl]; simp only [Z.in64]; omega
  · rw [hSl]; omega
  · show ((List.range (plan.length - 1)).map (inS m l plan)).length ≤ big
    rw [List.length_map, List.length_range]; simp only [big]; omega
  · rw [hsp, hSl, List.length_map, List.length_range] at hx
    simp at hx
  refine ⟨fun s => 0 ≤ s ∧ s ≤ (plan.length : Int), fun s => ((plan.length : Int) - s).toNat, ⟨by omega, by omega⟩, ?_⟩
  rintro j0 ⟨q1, q2⟩
  obtain ⟨j, rfl⟩ : ∃ n : Nat, j0 = (n : Int) := ⟨j0.toNat, by omega⟩
  refine ⟨fun h => ?_, fun _ => ⟨trivial, rfl⟩⟩
  have h : (j : Int) < (S.length : Int) := of_decide_eq_true h
  rw [hSl] at h
  have f1 : ((List.range plan.length).map (inS m l more)).getD (Int.toNat (j : Int)) (0, 0) = inS m l more j := range_getD _ _ (by omega)
  have f2 : S.getD (Int.toNat (j : Int)) (0, 0) = inS m l plan j := hSg j (by omega)
  have lt1 : ((((List.range plan.length).map (inS m l more)).length : Nat) : Int) = (plan.length : Int) := by rw [List.length_map, List.length_range]
  have lo : (inS m l more j).1 ≤ (inS m l plan j).1 := great_mono _ _ 0 j fun k _ => stv_mono (d := dLo) (r := m.1.2) (w := m.2.1.2) (by omega) hm1 hm2
  have hi : (inS m l more j).2 ≤ (inS m l plan j).2 := great_mono _ _ 0 j fun k _ => stv_mono (d := dHi) (r := m.1.1) (w := m.2.1.1) (by omega) hm1 hm2
  have hsame : j < kk → inS m l more j = inS m l plan j := fun hj => inS_congr fun i hi => by rw [hmg i, if_neg (by omega)]
  rw [f1, f2]
  have d1 : decide ((inS m l plan j).1 < (inS m l more j).1) = false := decide_eq_false (by omega)
  have d2 : decide ((inS m l plan j).2 < (inS m l more j).2) = false := decide_eq_false (by omega)
  rw [d1, d2]
  refine ⟨⟨q1, by rw [lt1]; exact h⟩, ⟨q1, by rw [hSl]; exact h⟩, fun _ => ⟨q1, by rw [lt1]; exact h⟩, fun _ => ⟨q1, by rw [hSl]; exact h⟩, fun _ => ⟨q1, by rw [lt1]; exact h⟩, fun _ => ⟨q1, by rw [hSl]; exact h⟩, fun hx => ?_, fun _ => ⟨by simp only [Z.in64]; omega, rfl, rfl, rfl, ⟨by omega, by omega⟩, show ((plan.length : Int) - ((j : Int) + 1)).toNat < ((plan.length : Int) - (j : Int)).toNat by omega⟩⟩
  have hx : ((false || false) || (decide ((j : Int) < (kk : Int)) && (!(((inS m l more j).1 == (inS m l plan j).1) && ((inS m l more j).2 == (inS m l plan j).2))))) = true := hx
  by_cases hj : j < kk
  · rw [hsame hj] at hx
    simp at hx
  · rw [decide_eq_false (by omega)] at hx
    simp at hx
end Go.Hue
