/-
  Chapter 8: the conditions, proved; fourth part: what a plan's stains are, and what shows.
-/
import Derived.Test.YtlkegffejcndbaaHueP3
set_option linter.all false


set_option maxRecDepth 100000
namespace Go.Hue
open Go Go.Sx

theorem great_range (f : Nat → Int) (a : Int) (n : Nat) : great ((List.range (n + 1)).map f) a = max (great ((List.range n).map f) a) (f n) := by
  simp only [great, List.range_succ, List.map_append, List.foldl_append, List.map_cons, List.map_nil, List.foldl_cons, List.foldl_nil]
theorem stains_lo (m : Mill) (l : List Hue) (plan : List Turn) (i : Nat) : hue_end_stains (endLo, m, l, plan, (i : Int)) = (List.range i).map fun k => stLo m l plan k i := rfl
theorem stains_hi (m : Mill) (l : List Hue) (plan : List Turn) (i : Nat) : hue_end_stains (endHi, m, l, plan, (i : Int)) = (List.range i).map fun k => stHi m l plan k i := rfl
theorem v12 (x : Mill × (List Hue) × List Turn) (_ : k12.pre x) : V12 x := by
  obtain ⟨m, l, plan⟩ := x
  refine ⟨trivial, fun h => ?_, fun h => ?_⟩
  · show (([] : List Span), (1 : Int)) = stainsV m l plan
    rw [stainsV, show validB m l = false from not_iff.1.1 h]; rfl
  have hv : validB m l = true := not_iff.2.1 h
  have HV := valid_iff.1 hv
  have hl6 := HV.len
  refine ⟨show l.length ≤ big from Nat.le_trans hl6 (by decide), fun h => ?_, fun h => ?_⟩
  · show (([] : List Span), (2 : Int)) = stainsV m l plan
    rw [stainsV, hv, show planB l plan = false from not_iff.1.1 h]; rfl
  have hpl : planB l plan = true := not_iff.2.1 h
  have HP := plan_iff.1 hpl
  have hlen := HP.len
  have hS : stainsV m l plan = ((List.range plan.length).map (inS m l plan), 0) := by rw [stainsV, hv, hpl]; rfl
  refine ⟨⟨⟨by show (0 : Int) ≤ (plan.length : Int); omega, Int.le_refl _⟩, roomy_of (by omega) (by omega) (by show (plan.length : Int) ≤ _; omega)⟩, ?_⟩
  refine ⟨fun s => ∃ i : Nat, s.1 = (i : Int) ∧ i ≤ plan.length ∧ s.2.length = plan.length ∧ ∀ k, k < i → s.2[k]? = some (inS m l plan k), fun s => ((plan.length : Int) - s.1).toNat, ⟨0, rfl, Nat.zero_le _, by show (List.replicate (Int.toNat (plan.length : Int)) ((0 : Int), (0 : Int))).length = _; simp, fun k hk => (by omega)⟩, ?_⟩
  rintro ⟨i0, out⟩ ⟨i, hi, hin, hol, hk⟩
  simp only at hi hol hk
  subst hi
  refine ⟨fun h => ⟨trivial, ?_⟩, fun h => ?_⟩
  · have h : (i : Int) < (plan.length : Int) := of_decide_eq_true h
    refine ⟨fun s => s = (0, [0, 0]) ∨ s = (1, [(inS m l plan i).1, 0]) ∨ s = (2, [(inS m l plan i).1, (inS m l plan i).2]), fun s => (2 - s.1).toNat, .inl rfl, ?_⟩
    have hp1 : hue_end_stains_p (endLo, m, l, plan, (i : Int)) := ⟨.inl rfl, hv, hpl, by show (0 : Int) ≤ (i : Int); omega, h⟩
    have hp2 : hue_end_stains_p (endHi, m, l, plan, (i : Int)) := ⟨.inr rfl, hv, hpl, by show (0 : Int) ≤ (i : Int); omega, h⟩
    have hb : ∀ f : Nat → Int, ((List.range i).map f).length ≤ big := by intro f; rw [List.length_map, List.length_range]; simp only [big]; omega
    rintro s (rfl | rfl | rfl)
    · refine ⟨fun _ => ⟨⟨show (0 : Int) ≤ 0 by omega, show (0 : Int) < 2 by omega⟩, hp1, hb _, ⟨show (0 : Int) ≤ 0 by omega, show (0 : Int) < 2 by omega⟩, by simp only [Z.in64]; omega, rfl, .inr (.inl ?_), show (2 - ((0 : Int) + 1)).toNat < (2 - (0 : Int)).toNat by omega⟩, fun h => (by cases h)⟩
      rfl
    · refine ⟨fun _ => ⟨⟨show (0 : Int) ≤ 1 by omega, show (1 : Int) < 2 by omega⟩, hp2, hb _, ⟨show (0 : Int) ≤ 1 by omega, show (1 : Int) < 2 by omega⟩, by simp only [Z.in64]; omega, rfl, .inr (.inr ?_), show (2 - ((1 : Int) + 1)).toNat < (2 - (1 : Int)).toNat by omega⟩, fun h => (by cases h)⟩
      rfl
    · refine ⟨fun h => (by cases h), fun _ => ⟨⟨by decide, by decide⟩, ⟨by decide, by decide⟩, ⟨?_, ?_⟩, ?_, ⟨i + 1, ?_, ?_, ?_, ?_⟩, ?_⟩⟩
      · show (0 : Int) ≤ (i : Int); omega
      · show (i : Int) < (out.length : Int); omega
      · simp only [Z.in64]; omega
      · show (i : Int) + 1 = ((i + 1 : Nat) : Int); omega
      · omega
      · show (out.set _ _).length = _
        rw [List.length_set]; exact hol
      · intro k hk2
        show (out.set i _)[k]? = _
        rw [List.getElem?_set]
        by_cases hik : i = k
        · subst hik
          rw [if_pos rfl, if_pos (by omega)]; rfl
        · rw [if_neg hik]; exact hk k (by omega)
      · show ((plan.length : Int) - ((i : Int) + 1)).toNat < ((plan.length : Int) - (i : Int)).toNat
        omega
  · have h : ¬ (i : Int) < (plan.length : Int) := of_decide_eq_false h
    show (out, (0 : Int)) = stainsV m l plan
    rw [hS]
    congr 1
    apply List.ext_getElem?
    intro k
    by_cases hkn : k < plan.length
    · rw [hk k (by omega), List.getElem?_map, List.getElem?_range hkn]; rfl
    · rw [List.getElem?_eq_none (by omega), List.getElem?_eq_none (by rw [List.length_map, List.length_range]; omega)]
theorem turnD' {plan : List Turn} (H : ∀ t ∈ plan, 0 ≤ t.2 ∧ t.2 ≤ 2) (i : Nat) : 0 ≤ (plan.getD i (0, 0)).2 ∧ (plan.getD i (0, 0)).2 ≤ 2 := by
  by_cases h : i < plan.length
  · exact H _ (getD_mem plan (0, 0) i h)
  · have : plan.getD i (0, 0) = (0, 0) := by simp [List.getD, List.getElem?_eq_none (Nat.le_of_not_lt h)]
    rw [this]; decide
theorem v48 (x : (List Turn) × Int × Int) (hp : k48.pre x) : V48 x := by
  obtain ⟨plan, a0, b0⟩ := x
  obtain ⟨h1, h2, h3, h4, h5⟩ : 0 ≤ a0 ∧ a0 ≤ b0 ∧ b0 < (plan.length : Int) ∧ plan.length ≤ 100 ∧ ∀ t ∈ plan, 0 ≤ t.2 ∧ t.2 ≤ 2 := hp
  obtain ⟨a, rfl⟩ : ∃ n : Nat, a0 = (n : Int) := ⟨a0.toNat, by omega⟩
  obtain ⟨b, rfl⟩ : ∃ n : Nat, b0 = (n : Int) := ⟨b0.toNat, by omega⟩
  have hw : ∀ i, 0 ≤ (plan.getD i (0, 0)).2 ∧ (plan.getD i (0, 0)).2 ≤ 2 := turnD' h5
  refine ⟨by simp only [Z.in64]; omega, ?_⟩
  refine ⟨fun s => ∃ i : Nat, s.2 = (i : Int) + 1 ∧ a ≤ i ∧ i ≤ b ∧ 0 ≤ s.1 ∧ s.1 ≤ 2 * ((i : Int) - a) ∧ s.1 + wsum plan i (b - i) = wsum plan a (b - a), fun s => ((b : Int) + 1 - s.2).toNat, ⟨a, rfl, Nat.le_refl _, by omega, Int.le_refl _, by show (0 : Int) ≤ _; omega, by show (0 : Int) + _ = _; omega⟩, ?_⟩
  rintro ⟨n, j⟩ ⟨i, hj, hai, hib, hn0, hn1, hs⟩
  simp only at hj hn0 hn1 hs
  subst hj
  refine ⟨fun h => ?_, fun h => ?_⟩
  · have h : (i : Int) + 1 ≤ (b : Int) := of_decide_eq_true h
    have e : Int.toNat ((i : Int) + 1) = i + 1 := by omega
    have hwi := hw (i + 1)
    refine ⟨⟨?_, ?_⟩, ?_, ?_, ⟨i + 1, ?_, by omega, by omega, ?_, ?_, ?_⟩, ?_⟩
    · show 0 ≤ (i : Int) + 1; omega
    · show (i : Int) + 1 < (plan.length : Int); omega
    · show Z.in64 (n + (plan.getD (Int.toNat ((i : Int) + 1)) (0, 0)).2)
      rw [e]; simp only [Z.in64]; omega
    · simp only [Z.in64]; omega
    · show (i : Int) + 1 + 1 = ((i + 1 : Nat) : Int) + 1; omega
    · show 0 ≤ n + (plan.getD (Int.toNat ((i : Int) + 1)) (0, 0)).2
      rw [e]; omega
    · show n + (plan.getD (Int.toNat ((i : Int) + 1)) (0, 0)).2 ≤ _
      rw [e]; omega
    · show n + (plan.getD (Int.toNat ((i : Int) + 1)) (0, 0)).2 + wsum plan (i + 1) (b - (i + 1)) = _
      rw [e, ← hs, show b - i = (b - (i + 1)) + 1 by omega, wsum]
      omega
    · show ((b : Int) + 1 - ((i : Int) + 1 + 1)).toNat < ((b : Int) + 1 - ((i : Int) + 1)).toNat
      omega
  · have h : ¬ (i : Int) + 1 ≤ (b : Int) := of_decide_eq_false h
    show n = wsum plan a (b - a)
    rw [← hs, show b - i = 0 by omega, wsum, Int.add_zero]
theorem v38 (x : Mill × (List Hue) × (List Turn) × Int × Int) (hp : k38.pre x) : V38 x := by
  obtain ⟨m, l, plan, a0, b0⟩ := x
  obtain ⟨hv, hpl, h1, h2, h3⟩ : validB m l = true ∧ planB l plan = true ∧ 0 ≤ a0 ∧ a0 < b0 ∧ b0 < (plan.length : Int) := hp
  obtain ⟨a, rfl⟩ : ∃ n : Nat, a0 = (n : Int) := ⟨a0.toNat, by omega⟩
  obtain ⟨b, rfl⟩ : ∃ n : Nat, b0 = (n : Int) := ⟨b0.toNat, by omega⟩
  have HV := valid_iff.1 hv
  have HP := plan_iff.1 hpl
  have hlen := HP.len
  have hturn := HP.turn _ (getD_mem plan (0, 0) a (by omega))
  have hd := HV.hue _ (getD_mem' l ((0, 0), 0, 0) (plan.getD a (0, 0)).1 hturn.1 hturn.2.1)
  have hr := HV.run
  have hw := HV.wash
  have hws : 0 ≤ wsum plan a (b - a) ∧ wsum plan a (b - a) ≤ 24 := by
    have := wsum_bd (turnD HP) (b - a) a
    omega
  have hk : 0 ≤ (b : Int) - a - 1 ∧ (b : Int) - a - 1 ≤ 12 := by omega
  have q1 := mul_bd (a := m.1.2) (A := 10000) ⟨by omega, by omega⟩ hk
  have q2 := mul_bd (a := m.1.1) (A := 10000) ⟨by omega, by omega⟩ hk
  have q3 := mul_bd (a := m.2.1.2) (A := 10000) ⟨by omega, by omega⟩ hws
  have q4 := mul_bd (a := m.2.1.1) (A := 10000) ⟨by omega, by omega⟩ hws
  have eh : hueAt l plan a = l.getD (Int.toNat (plan.getD a (0, 0)).1) ((0, 0), 0, 0) := rfl
  have ek : ((b : Int) - 1 - a) = (b : Int) - a - 1 := by omega
  refine ⟨⟨h1, show (a : Int) < (plan.length : Int) by omega⟩, ⟨hturn.1, hturn.2.1⟩, ?_, ?_, ⟨h1, by show (a : Int) ≤ b; omega, h3, by show plan.length ≤ 100; omega, fun t ht => (HP.turn t ht).2.2⟩, ?_, ?_, ?_, ?_, ?_, ?_, ?_, ?_, ?_⟩
  · simp only [Z.in64]; omega
  · simp only [Z.in64]; omega
  · show Z.in64 (m.1.2 * ((b : Int) - a - 1))
    simp only [Z.in64]; omega
  · show Z.in64 ((l.getD (Int.toNat (plan.getD a (0, 0)).1) ((0, 0), 0, 0)).1.1 - m.1.2 * ((b : Int) - a - 1))
    simp only [Z.in64]; omega
  · show Z.in64 (m.2.1.2 * wsum plan a (b - a))
    simp only [Z.in64]; omega
  · show Z.in64 ((l.getD (Int.toNat (plan.getD a (0, 0)).1) ((0, 0), 0, 0)).1.1 - m.1.2 * ((b : Int) - a - 1) - m.2.1.2 * wsum plan a (b - a))
    simp only [Z.in64]; omega
  · show Z.in64 (m.1.1 * ((b : Int) - a - 1))
    simp only [Z.in64]; omega
  · show Z.in64 ((l.getD (Int.toNat (plan.getD a (0, 0)).1) ((0, 0), 0, 0)).1.2 - m.1.1 * ((b : Int) - a - 1))
    simp only [Z.in64]; omega
  · show Z.in64 (m.2.1.1 * wsum plan a (b - a))
    simp only [Z.in64]; omega
  · show Z.in64 ((l.getD (Int.toNat (plan.getD a (0, 0)).1) ((0, 0), 0, 0)).1.2 - m.1.1 * ((b : Int) - a - 1) - m.2.1.1 * wsum plan a (b - a))
    simp only [Z.in64]; omega
  · show ((l.getD (Int.toNat (plan.getD a (0, 0)).1) ((0, 0), 0, 0)).1.1 - m.1.2 * ((b : Int) - a - 1) - m.2.1.2 * wsum plan a (b - a), (l.getD (Int.toNat (plan.getD a (0, 0)).1) ((0, 0), 0, 0)).1.2 - m.1.1 * ((b : Int) - a - 1) - m.2.1.1 * wsum plan a (b - a)) = (stLo m l plan a b, stHi m l plan a b)
    unfold stLo stHi stv
    rw [ek, eh]
    unfold dLo dHi
    refine Prod.ext ?_ ?_
    · show _ = _; omega
    · show _ = _; omega
theorem v35 (x : Mill × (List Hue) × (List Turn) × Int) (hp : k35.pre x) : V35 x := by
  obtain ⟨m, l, plan, b0⟩ := x
  obtain ⟨hv, hpl, h1, h3⟩ : validB m l = true ∧ planB l plan = true ∧ 0 ≤ b0 ∧ b0 < (plan.length : Int) := hp
  obtain ⟨b, rfl⟩ : ∃ n : Nat, b0 = (n : Int) := ⟨b0.toNat, by omega⟩
  have hlen := (plan_iff.1 hpl).len
  refine ⟨fun s => ∃ i : Nat, s.1 = (i : Int) ∧ i ≤ b ∧ s.2 = (great ((List.range i).map fun k => stLo m l plan k b) 0, great ((List.range i).map fun k => stHi m l plan k b) 0), fun s => ((b : Int) - s.1).toNat, ⟨0, rfl, Nat.zero_le _, rfl⟩, ?_⟩
  rintro ⟨i0, c⟩ ⟨i, hi, hib, hs⟩
  simp only at hi hs
  subst hi hs
  refine ⟨fun h => ?_, fun h => ?_⟩
  · have h : (i : Int) < (b : Int) := of_decide_eq_true h
    refine ⟨⟨hv, hpl, by show 0 ≤ (i : Int); omega, h, h3⟩, by simp only [Z.in64]; omega, rfl, ⟨i + 1, by show (i : Int) + 1 = ((i + 1 : Nat) : Int); omega, by omega, ?_⟩, ?_⟩
    · rw [great_range, great_range]; rfl
    · show ((b : Int) - ((i : Int) + 1)).toNat < ((b : Int) - (i : Int)).toNat; omega
  · have h : ¬ (i : Int) < (b : Int) := of_decide_eq_false h
    have : i = b := by omega
    subst this
    rfl
theorem v13 (x : Mill × (List Hue) × List Turn) (hp : k13.pre x) : V13 x := by
  obtain ⟨m, l, plan⟩ := x
  obtain ⟨hb1, hb2⟩ : l.length ≤ big ∧ plan.length ≤ big := hp
  refine ⟨hb1, fun h => ?_, fun h => ⟨⟨hb1, hb2⟩, fun h2 => ?_, fun h2 => ?_⟩⟩
  · show (([] : List Span), (1 : Int)) = stainsV m l plan
    rw [stainsV, show validB m l = false from not_iff.1.1 h]; rfl
  · show (([] : List Span), (2 : Int)) = stainsV m l plan
    rw [stainsV, show validB m l = true from not_iff.2.1 h, show planB l plan = false from not_iff.1.1 h2]; rfl
  have hv : validB m l = true := not_iff.2.1 h
  have hpl : planB l plan = true := not_iff.2.1 h2
  have hlen := (plan_iff.1 hpl).len
  have hS : stainsV m l plan = ((List.range plan.length).map (inS m l plan), 0) := by rw [stainsV, hv, hpl]; rfl
  refine ⟨fun s => ∃ i : Nat, s.2 = (i : Int) ∧ i ≤ plan.length ∧ s.1 = (List.range i).map (inS m l plan), fun s => ((plan.length : Int) - s.2).toNat, ⟨0, rfl, Nat.zero_le _, rfl⟩, ?_⟩
  rintro ⟨out, i0⟩ ⟨i, hi, hin, hs⟩
  simp only at hi hs
  subst hi hs
  refine ⟨fun h => ?_, fun h => ?_⟩
  · have h : (i : Int) < (plan.length : Int) := of_decide_eq_true h
    refine ⟨⟨hv, hpl, by show 0 ≤ (i : Int); omega, h⟩, roomy_of (by omega) (by omega) ?_, by simp only [Z.in64]; omega, ⟨i + 1, by show (i : Int) + 1 = ((i + 1 : Nat) : Int); omega, by omega, ?_⟩, ?_⟩
    · simp only [List.length_append, List.length_map, List.length_range, List.length_set, List.length_replicate]
      omega
    · rw [List.range_succ, List.map_append]; rfl
    · show ((plan.length : Int) - ((i : Int) + 1)).toNat < ((plan.length : Int) - (i : Int)).toNat; omega
  · have h : ¬ (i : Int) < (plan.length : Int) := of_decide_eq_false h
    have : i = plan.length := by omega
    subst this
    show (_, (0 : Int)) = stainsV m l plan
    rw [hS]
theorem v14 (x : Mill × (List Hue) × List Turn) (_ : k14.pre x) : V14 x := by
  obtain ⟨m, l, plan⟩ := x
  refine ⟨trivial, fun h => ?_, fun h => ?_⟩
  · show ((0 : Int), (0 : Int), (1 : Int)) = showsV m l plan
    rw [showsV, show validB m l = false from not_iff.1.1 h]; rfl
  have hv : validB m l = true := not_iff.2.1 h
  have HV := valid_iff.1 hv
  have hl6 := HV.len
  refine ⟨show l.length ≤ big from Nat.le_trans hl6 (by decide), fun h => ?_, fun h => ?_⟩
  · show ((0 : Int), (0 : Int), (2 : Int)) = showsV m l plan
    rw [showsV, hv, show planB l plan = false from not_iff.1.1 h]; rfl
  have hpl : planB l plan = true := not_iff.2.1 h
  have HP := plan_iff.1 hpl
  have hlen := HP.len
  have hS : showsV m l plan = showGo m l plan plan.length 0 := by rw [showsV, hv, hpl]; rfl
  refine ⟨fun s => ∃ i : Nat, s = (i : Int) ∧ i ≤ plan.length ∧ showsV m l plan = showGo m l plan (plan.length - i) i, fun s => ((plan.length : Int) - s).toNat, ⟨0, rfl, Nat.zero_le _, hS⟩, ?_⟩
  rintro i0 ⟨i, hi, hin, hs⟩
  subst hi
  refine ⟨fun h => ?_, fun h => ?_⟩
  · have h : (i : Int) < (plan.length : Int) := of_decide_eq_true h
    have hturn := HP.turn _ (getD_mem plan (0, 0) i (by omega))
    rw [show plan.length - i = (plan.length - (i + 1)) + 1 by omega, showGo] at hs
    refine ⟨⟨by show 0 ≤ (i : Int); omega, h⟩, ⟨hturn.1, hturn.2.1⟩, trivial, ⟨by decide, by decide⟩, ⟨.inr rfl, hv, hpl, by show 0 ≤ (i : Int); omega, h⟩, ⟨?_, fun _ _ => trivial⟩, fun hk => ?_, fun hk => ⟨?_, ⟨i + 1, ?_, by omega, ?_⟩, ?_⟩⟩
    · show ((List.range i).map _).length ≤ big
      rw [List.length_map, List.length_range]; simp only [big]; omega
    · show ((i : Int), showAt m l plan i, (0 : Int)) = showsV m l plan
      rw [hs, show decide (0 ≤ showAt m l plan i) = true from hk]; rfl
    · simp only [Z.in64]; omega
    · show (i : Int) + 1 = ((i + 1 : Nat) : Int); omega
    · rw [hs, show decide (0 ≤ showAt m l plan i) = false from hk]; rfl
    · show ((plan.length : Int) - ((i : Int) + 1)).toNat < ((plan.length : Int) - (i : Int)).toNat; omega
  · have h : ¬ (i : Int) < (plan.length : Int) := of_decide_eq_false h
    show ((0 : Int), (0 : Int), (4 : Int)) = showsV m l plan
    rw [hs, show plan.length - i = 0 by omega]; rfl
theorem v15 (x : Mill × (List Hue) × List Turn) (hp : k15.pre x) : V15 x := by
  obtain ⟨m, l, plan⟩ := x
  obtain ⟨hb1, hb2⟩ : l.length ≤ big ∧ plan.length ≤ big := hp
  refine ⟨hb1, fun h => ?_, fun h => ⟨⟨hb1, hb2⟩, fun h2 => ?_, fun h2 => ?_⟩⟩
  · show ((0 : Int), (0 : Int), (1 : Int)) = showsV m l plan
    rw [showsV, show validB m l = false from not_iff.1.1 h]; rfl
  · show ((0 : Int), (0 : Int), (2 : Int)) = showsV m l plan
    rw [showsV, show validB m l = true from not_iff.2.1 h, show planB l plan = false from not_iff.1.1 h2]; rfl
  have hv : validB m l = true := not_iff.2.1 h
  have hpl : planB l plan = true := not_iff.2.1 h2
  have HP := plan_iff.1 hpl
  have hlen := HP.len
  have hS : showsV m l plan = showGo m l plan plan.length 0 := by rw [showsV, hv, hpl]; rfl
  refine ⟨fun s => ∃ i : Nat, s = (i : Int) ∧ i ≤ plan.length ∧ showsV m l plan = showGo m l plan (plan.length - i) i, fun s => ((plan.length : Int) - s).toNat, ⟨0, rfl, Nat.zero_le _, hS⟩, ?_⟩
  rintro i0 ⟨i, hi, hin, hs⟩
  subst hi
  refine ⟨fun h => ?_, fun h => ?_⟩
  · have h : (i : Int) < (plan.length : Int) := of_decide_eq_true h
    have hturn := HP.turn _ (getD_mem plan (0, 0) i (by omega))
    rw [show plan.length - i = (plan.length - (i + 1)) + 1 by omega, showGo] at hs
    obtain ⟨L, hL⟩ : ∃ L, L = (List.range i).map fun k => stHi m l plan k i := ⟨_, rfl⟩
    obtain ⟨p, hpp⟩ : ∃ p : Int → Bool, p = fun n => decide ((hueAt l plan i).2.1 < n) := ⟨_, rfl⟩
    have hsh : showAt m l plan i = ixF p L 0 := by rw [hL, hpp]; rfl
    have hLl : L.length = i := by rw [hL, List.length_map, List.length_range]
    refine ⟨fun s => 0 ≤ s ∧ s ≤ (i : Int) ∧ ixF p L 0 = ixF p (L.drop s.toNat) s, fun s => ((i : Int) - s).toNat, ⟨by omega, by omega, rfl⟩, ?_⟩
    rintro k0 ⟨g1, g2, g3⟩
    obtain ⟨k, rfl⟩ : ∃ n : Nat, k0 = (n : Int) := ⟨k0.toNat, by omega⟩
    refine ⟨fun hk => ?_, fun hk => ?_⟩
    · have hk : (k : Int) < (i : Int) := of_decide_eq_true hk
      have e := drop_getD' L 0 (k : Int) g1 (by omega)
      have eL : L.getD (Int.toNat (k : Int)) 0 = stHi m l plan k i := by
        rw [hL]
        simp only [List.getD, Int.toNat_natCast, List.getElem?_map, List.getElem?_range (show k < i by omega), Option.map_some, Option.getD_some]
      rw [e, ixF, eL] at g3
      refine ⟨⟨hv, hpl, g1, hk, h⟩, ⟨by show 0 ≤ (i : Int); omega, h⟩, ⟨hturn.1, hturn.2.1⟩, fun hx => ?_, fun hx => ⟨?_, ⟨?_, ?_, ?_⟩, ?_⟩⟩
      · have hx' : p (stHi m l plan k i) = true := by rw [hpp]; exact hx
        rw [hx', cond_true] at g3
        show ((i : Int), (k : Int), (0 : Int)) = showsV m l plan
        rw [hs, hsh, g3, decide_eq_true g1]; rfl
      · simp only [Z.in64]; omega
      · show 0 ≤ (k : Int) + 1; omega
      · show (k : Int) + 1 ≤ (i : Int); omega
      · have hx' : p (stHi m l plan k i) = false := by rw [hpp]; exact hx
        rw [hx', cond_false] at g3
        exact g3
      · show ((i : Int) - ((k : Int) + 1)).toNat < ((i : Int) - (k : Int)).toNat; omega
    · have hk : ¬ (k : Int) < (i : Int) := of_decide_eq_false hk
      rw [List.drop_eq_nil_of_le (by omega), ixF] at g3
      refine ⟨by simp only [Z.in64]; omega, ⟨i + 1, by show (i : Int) + 1 = ((i + 1 : Nat) : Int); omega, by omega, ?_⟩, ?_⟩
      · rw [hs, hsh, g3]; rfl
      · show ((plan.length : Int) - ((i : Int) + 1)).toNat < ((plan.length : Int) - (i : Int)).toNat; omega
  · have h : ¬ (i : Int) < (plan.length : Int) := of_decide_eq_false h
    show ((0 : Int), (0 : Int), (4 : Int)) = showsV m l plan
    rw [hs, show plan.length - i = 0 by omega]; rfl
theorem v17 (x : Mill × (List Hue) × Int × Int) (hp : k17.pre x) : V17 x := by
  obtain ⟨m, l, a, b⟩ := x
  have hb : l.length ≤ big := hp
  have hb' := hb
  simp only [big] at hb'
  refine ⟨hb, fun h => ?_, fun h => ?_⟩
  · show ((0 : Int), (1 : Int)) = washV m l a b
    rw [washV, show validB m l = false from not_iff.1.1 h]; rfl
  have hv : validB m l = true := not_iff.2.1 h
  have H := valid_iff.1 hv
  have h64 : Z.in64 ((l.length : Int) - 1) := by simp only [Z.in64]; omega
  refine ⟨h64, trivial, fun _ => h64, fun _ => trivial, fun h => ?_, fun h => ?_⟩
  · show ((0 : Int), (2 : Int)) = washV m l a b
    rw [washV, hv, show (!inB a 0 ((l.length : Int) - 1) || !inB b 0 ((l.length : Int) - 1)) = true from h]; rfl
  have h' : (!inB a 0 ((l.length : Int) - 1) || !inB b 0 ((l.length : Int) - 1)) = false := h
  have hw : washV m l a b = cond (decide (overV l a b ≤ 0)) (0, 0) (cond (m.2.1.1 == 0) (0, 4) (Int.tdiv (overV l a b + m.2.1.1 - 1) m.2.1.1, 0)) := by
    rw [washV, hv, h']; rfl
  rw [← Bool.not_and] at h'
  have h' := not_iff.2.1 h'
  simp only [Bool.and_eq_true, inB_iff] at h'
  have ha : 0 ≤ a ∧ a < (l.length : Int) := by omega
  have hbb : 0 ≤ b ∧ b < (l.length : Int) := by omega
  have ho := over_bd H ha hbb
  have hm := H.wash
  have hd1 := H.hue _ (getD_mem' l ((0, 0), 0, 0) a ha.1 ha.2)
  refine ⟨fun n => 0 ≤ n ∧ n ≤ 10001 ∧ (0 < n → 0 < overV l a b - (n - 1) * m.2.1.1), fun n => (10001 - n).toNat, ⟨by omega, by omega, by omega⟩, ?_⟩
  rintro n ⟨g1, g2, g3⟩
  refine ⟨fun hn => ?_, fun hn => ?_⟩
  · have hn : n ≤ 10000 := of_decide_eq_true hn
    have q := mul_bd (a := n) (A := 10000) (b := m.2.1.1) (B := 10000) ⟨g1, hn⟩ ⟨by omega, by omega⟩
    have eo : ((l.getD (Int.toNat a) ((0, 0), 0, 0)).1.2 - n * m.2.1.1 ≤ (l.getD (Int.toNat b) ((0, 0), 0, 0)).2.1) ↔ overV l a b - n * m.2.1.1 ≤ 0 := by
      unfold overV; omega
    refine ⟨ha, ?_, ?_, hbb, fun hx => ?_, fun hx => ⟨?_, ⟨?_, ?_, ?_⟩, ?_⟩⟩
    · show Z.in64 (n * m.2.1.1)
      simp only [Z.in64]; omega
    · show Z.in64 ((l.getD (Int.toNat a) ((0, 0), 0, 0)).1.2 - n * m.2.1.1)
      simp only [Z.in64]; omega
    · have hx := eo.1 (of_decide_eq_true hx)
      show (n, (0 : Int)) = washV m l a b
      rw [hw]
      by_cases hn0 : n = 0
      · subst hn0
        rw [decide_eq_true (by omega)]; rfl
      · have g3 := g3 (by omega)
        have hmul : (n - 1) * m.2.1.1 = n * m.2.1.1 - m.2.1.1 := by rw [Int.sub_mul, Int.one_mul]
        have hnn : 0 ≤ (n - 1) * m.2.1.1 := Int.mul_nonneg (by omega) hm.1
        have hwp : 0 < m.2.1.1 := by
          rcases Int.lt_or_eq_of_le hm.1 with h | h
          · exact h
          · rw [← h] at hx g3; simp at hx g3; omega
        rw [decide_eq_false (by omega), cond_false, show (m.2.1.1 == 0) = false by simpa using (by omega : m.2.1.1 ≠ 0), cond_false, tdiv_pos (by omega)]
        congr 1
        refine Int.le_antisymm ?_ ?_
        · exact (Int.le_ediv_iff_mul_le hwp).2 (by omega)
        · have : (overV l a b + m.2.1.1 - 1) / m.2.1.1 < n + 1 := (Int.ediv_lt_iff_lt_mul hwp).2 (by rw [Int.add_mul, Int.one_mul]; omega)
          omega
    · simp only [Z.in64]; omega
    · omega
    · omega
    · intro _
      have hx : ¬ ((l.getD (Int.toNat a) ((0, 0), 0, 0)).1.2 - n * m.2.1.1 ≤ (l.getD (Int.toNat b) ((0, 0), 0, 0)).2.1) := of_decide_eq_false hx
      rw [show n + 1 - 1 = n by omega]
      have := fun h => hx (eo.2 h)
      omega
    · simp only; omega
  · have hn : ¬ n ≤ 10000 := of_decide_eq_false hn
    have hn' : n = 10001 := by omega
    subst hn'
    have g3 := g3 (by omega)
    have hw0 : m.2.1.1 = 0 := by omega
    show ((0 : Int), (4 : Int)) = washV m l a b
    rw [hw, decide_eq_false (by rw [hw0] at g3; omega), hw0]; rfl
end Go.Hue
