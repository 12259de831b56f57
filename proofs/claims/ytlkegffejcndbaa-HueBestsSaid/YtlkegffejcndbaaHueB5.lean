/-
  Chapter 8: the law HueBest.
-/
import Derived.Test.YtlkegffejcndbaaHueB4
set_option linter.all false


set_option maxRecDepth 100000
namespace Go.Hue
open Go Go.Sx

theorem costGo_eq {m : Mill} {l : List Hue} {plan : List Turn} (H : Valid m l) (hp : planB l plan = true) : ∀ k, costGo m l plan k = costD m l plan k
  | 0 => rfl
  | k + 1 => by rw [costD_eq H hp, costGo, costGo_eq H hp k]
theorem v28 (x : (List Turn) × Mill × List Hue) (_ : k28.pre x) : V28 x := by
  obtain ⟨plan, m, l⟩ := x
  have bad : (validB m l && planB l plan) = false → (hue_Stains (m, l, plan)).2 ≠ 0 := by
    intro h
    show (stainsV m l plan).2 ≠ 0
    unfold stainsV
    cases hv : validB m l with
    | false => show (1 : Int) ≠ 0; omega
    | true =>
      rw [hv, Bool.true_and] at h
      rw [h]; show (2 : Int) ≠ 0; omega
  refine ⟨trivial, trivial, fun h => ?_, fun h => ?_⟩
  · cases hv : (validB m l && planB l plan) with
    | false =>
      show ((0 : Int), false) = law08u_HueBest_1 (plan, m, l)
      rw [law08u_HueBest_1, hv]; rfl
    | true =>
      rw [Bool.and_eq_true] at hv
      have e := stains_ok hv.1 hv.2
      have h : ((!((hue_Stains (m, l, plan)).2 == 0)) || (!((((hue_Stains (m, l, plan)).1).length : Int) == (plan.length : Int)))) = true := h
      rw [e] at h
      simp at h
  · cases hv : (validB m l && planB l plan) with
    | false =>
      have h : ((!((hue_Stains (m, l, plan)).2 == 0)) || (!((((hue_Stains (m, l, plan)).1).length : Int) == (plan.length : Int)))) = false := h
      have h := (Bool.or_eq_false_iff.1 h).1
      exact absurd (by simpa using h) (bad hv)
    | true =>
      have hv' := hv
      rw [Bool.and_eq_true] at hv
      have H := valid_iff.1 hv.1
      have hlen := (plan_iff.1 hv.2).len
      have e := stains_ok hv.1 hv.2
      have hval : law08u_HueBest_1 (plan, m, l) = (costGo m l plan plan.length, (showsV m l plan).2.2 == 4) := by rw [law08u_HueBest_1, hv']; rfl
      have hSl : ((List.range plan.length).map (inS m l plan)).length = plan.length := by rw [List.length_map, List.length_range]
      show Z.LoopP (X := Int × Int) (0, 0) _
      refine ⟨fun s => ∃ i : Nat, s.2 = (i : Int) ∧ i ≤ plan.length ∧ s.1 = costGo m l plan i, fun s => ((plan.length : Int) - s.2).toNat, ⟨0, rfl, Nat.zero_le _, rfl⟩, ?_⟩
      rintro ⟨n, i0⟩ ⟨i, hi, hil, hn⟩
      simp only at hi hn
      subst hi hn
      dsimp only
      rw [e]
      refine ⟨fun h => ?_, fun h => ?_⟩
      · have h : (i : Int) < (plan.length : Int) := of_decide_eq_true h
        have eg : ((List.range plan.length).map (inS m l plan)).getD (Int.toNat (i : Int)) (0, 0) = inS m l plan i := range_getD _ _ (by omega)
        have b1 := costD_bd H hv.2 i hil
        have b2 := costD_bd H hv.2 (i + 1) (by omega)
        have b3 := inS_bd H hv.2 (i := i) (by omega)
        have b4 := turnD (plan_iff.1 hv.2) i
        have q := mul_bd (a := m.2.2) (A := 10000) H.price b4
        rw [← costGo_eq H hv.2] at b1
        rw [eg]
        refine ⟨⟨by omega, by rw [hSl]; exact h⟩, ?_, ⟨by omega, h⟩, ?_, ?_, by simp only [Z.in64]; omega, ⟨i + 1, by show (i : Int) + 1 = ((i + 1 : Nat) : Int); omega, by omega, rfl⟩, ?_⟩
        · show Z.in64 (costGo m l plan i + (inS m l plan i).2)
          simp only [Z.in64]; omega
        · show Z.in64 (m.2.2 * (plan.getD i (0, 0)).2)
          simp only [Z.in64]; omega
        · show Z.in64 (costGo m l plan i + (inS m l plan i).2 + m.2.2 * (plan.getD i (0, 0)).2)
          simp only [Z.in64]; omega
        · show ((plan.length : Int) - ((i : Int) + 1)).toNat < ((plan.length : Int) - (i : Int)).toNat; omega
      · have h : ¬ (i : Int) < (plan.length : Int) := of_decide_eq_false h
        have hi : i = plan.length := by omega
        subst hi
        exact hval.symm
/-- At the first turn in which two plans differ. -/
theorem lex_at : ∀ {p q : List Turn} (j : Nat), lexle p q → j < p.length → j < q.length → (∀ i, i < j → p.getD i (0, 0) = q.getD i (0, 0)) → p.getD j (0, 0) ≠ q.getD j (0, 0) → tlt (p.getD j (0, 0)) (q.getD j (0, 0))
  | [], _, _, _, hp, _, _, _ => by simp at hp
  | _ :: _, [], _, _, _, hq, _, _ => by simp at hq
  | a :: p, b :: q, 0, h, _, _, _, hne => by
    rcases h with h | h
    · exact h
    · exact absurd h.1 hne
  | a :: p, b :: q, j + 1, h, hp, hq, he, hne => by
    rcases h with h | h
    · have := he 0 (by omega)
      have this : a = b := this
      subst this
      rcases h with h | h
      · omega
      · omega
    · exact lex_at (p := p) (q := q) j h.2 (by simpa using hp) (by simpa using hq) (fun i hi => he (i + 1) (by omega)) hne
theorem v8 (x : Mill × (List Hue) × List Int) (hp : k8.pre x) : V8 x := by
  obtain ⟨m, l, b⟩ := x
  obtain ⟨hb, hbl⟩ : (∀ x ∈ b, 0 ≤ x ∧ x ≤ 255) ∧ b.length ≤ 140737488355328 := hp
  have eA : law08u_awake () = true := rfl
  have eH : law08u_HueBest (m, l, b) = true := rfl
  have eV : ref08u_Valid (m, l) = validB m l := rfl
  have lens : ((law08u_large (l, 6)) || ((b.length : Int) == 0)) = false → l.length ≤ 12 ∧ l.length ≤ big ∧ b.length ≠ 0 := by
    intro h
    simp only [law08u_large, Bool.or_eq_false_iff, decide_eq_false_iff_not] at h
    have h4 : ((b.length : Int) == 0) = false := h.2
    refine ⟨by omega, by simp only [big]; omega, ?_⟩
    intro h0
    rw [h0] at h4; cases h4
  refine ⟨trivial, fun h => (lens h).2.1, fun _ => ⟨trivial, rfl⟩, fun h => ?_⟩
  have h : (((law08u_large (l, 6)) || ((b.length : Int) == 0)) || (!validB m l)) = false := h
  rw [Bool.or_eq_false_iff] at h
  obtain ⟨hl12, hlb, hb0⟩ := lens h.1
  have hv : validB m l = true := not_iff.2.1 h.2
  have H := valid_iff.1 hv
  have hl6 := H.len
  obtain ⟨W, hW⟩ : ∃ W, W = wholeV l.length b := ⟨_, rfl⟩
  have hWw : Whole l W := by rw [hW]; exact wholeV_whole hb
  have eW : law08u_whole (l, b) = W := hW.symm
  obtain ⟨B, hB⟩ : ∃ B, B = bestOut m l := ⟨_, rfl⟩
  have eB : hue_Best (m, l) = B := hB.symm
  have price : ∀ p, Whole l p → law08u_HueBest_1 (p, m, l) = (costD m l p p.length, (showsV m l p).2.2 == 4) := by
    intro p hp
    rw [law08u_HueBest_1, show (validB m l && planB l p) = true from by rw [hv, hp.plan hl6]; rfl, cond_true, costGo_eq H (hp.plan hl6)]
  have pW := price W hWw
  have hall := best_all (m := m) (l := l) hv
  rw [← hB] at hall
  dsimp only
  rw [eB, eW, eA, eH, pW]
  refine ⟨trivial, ⟨hl12, hb0, hbl, hb⟩, trivial, fun hx => ?_, fun hx => ⟨trivial, ?_⟩⟩
  · rcases hall with ⟨h1, h2⟩ | ⟨h1, _⟩
    · have h3 : ((showsV m l W).2.2 == 4) = false := by
        have := h2 W hWw
        simpa using this
      rw [h1, h3]
      exact ⟨fun _ => trivial, rfl⟩
    · rw [h1] at hx; cases hx
  rcases hall with ⟨h1, _⟩ | ⟨h1, h2, h3, h4, h5⟩
  · rw [h1] at hx; cases hx
  have pB := price B.1 h2
  have h34 : ((showsV m l B.1).2.2 == 4) = true := by rw [h3]; rfl
  rw [h34, ← h4] at pB
  rw [pB]
  have hBl := h2.len
  refine ⟨fun hy => ?_, fun _ => ?_⟩
  · rw [hBl] at hy
    simp at hy
  refine ⟨fun s => ∃ i : Nat, s.1 = (i : Int) ∧ i ≤ B.1.length ∧ s.2.length = 6 ∧ ∀ h, s.2.getD h false = true → ∃ j, j < i ∧ (B.1.getD j (0, 0)).1.toNat = h, fun s => ((B.1.length : Int) - s.1).toNat, ⟨0, rfl, Nat.zero_le _, rfl, fun h hh => ?_⟩, ?_⟩
  · have : (List.replicate 6 false).getD h false = false := by
      simp only [List.getD, List.getElem?_replicate]
      split <;> rfl
    have hh : (List.replicate 6 false).getD h false = true := hh
    rw [this] at hh; cases hh
  rintro ⟨i0, had⟩ ⟨i, hi, hil, hal, hhad⟩
  simp only at hi hal hhad
  subst hi
  refine ⟨fun h => ?_, fun h => ?_⟩
  · have h : (i : Int) < (B.1.length : Int) := of_decide_eq_true h
    have ht := h2.turn _ (getD_mem B.1 (0, 0) i (by omega))
    have hr : 0 ≤ (B.1.getD i (0, 0)).1 ∧ (B.1.getD i (0, 0)).1 < 6 := ⟨ht.1, by omega⟩
    refine ⟨⟨by omega, h⟩, hr, fun hy => ?_, fun hy => ⟨⟨by omega, h⟩, hr, by simp only [Z.in64]; omega, ⟨i + 1, by show (i : Int) + 1 = ((i + 1 : Nat) : Int); omega, by omega, ?_, fun g hg => ?_⟩, ?_⟩⟩
    · obtain ⟨j, hj, hjj⟩ := hhad _ hy
      have hjj : (B.1.getD j (0, 0)).1.toNat = (B.1.getD i (0, 0)).1.toNat := hjj
      have := h2.once j i hj (by omega)
      have htj := h2.turn _ (getD_mem B.1 (0, 0) j (by omega))
      omega
    · show (had.set _ true).length = 6
      rw [List.length_set]; exact hal
    · have hg : (had.set (B.1.getD i (0, 0)).1.toNat true).getD g false = true := hg
      by_cases hgi : (B.1.getD i (0, 0)).1.toNat = g
      · exact ⟨i, by omega, hgi⟩
      · rw [set_getD_ne hgi] at hg
        obtain ⟨j, hj, hjj⟩ := hhad g hg
        exact ⟨j, by omega, hjj⟩
    · show ((B.1.length : Int) - ((i : Int) + 1)).toNat < ((B.1.length : Int) - (i : Int)).toNat; omega
  refine ⟨fun _ => ⟨trivial, rfl⟩, fun hy => ?_⟩
  rw [Bool.or_eq_false_iff] at hy
  obtain ⟨hy1, hy2⟩ := hy
  have hs4 : (showsV m l W).2.2 = 4 := by
    have := not_iff.2.1 hy1
    simpa using this
  have hy2 : ¬ B.2.1 < costD m l W W.length := of_decide_eq_false hy2
  obtain ⟨g1, g2⟩ := h5 W hWw hs4
  refine ⟨fun hz => ?_, fun hz => ?_⟩
  · have hz : costD m l W W.length < B.2.1 := of_decide_eq_true hz
    omega
  have hlex := g2 (by omega)
  have hWl := hWw.len
  refine ⟨fun s => ∃ i : Nat, s = (i : Int) ∧ i ≤ B.1.length ∧ ∀ j, j < i → B.1.getD j (0, 0) = W.getD j (0, 0), fun s => ((B.1.length : Int) - s).toNat, ⟨0, rfl, Nat.zero_le _, fun j hj => (by omega)⟩, ?_⟩
  rintro s1 ⟨k, rfl, hk, hsame⟩
  refine ⟨fun h => ?_, fun _ => ⟨trivial, rfl⟩⟩
  have h : (k : Int) < (B.1.length : Int) := of_decide_eq_true h
  have r1 : 0 ≤ (k : Int) ∧ (k : Int) < (B.1.length : Int) := ⟨by omega, h⟩
  have r2 : 0 ≤ (k : Int) ∧ (k : Int) < (W.length : Int) := ⟨by omega, by omega⟩
  refine ⟨r1, r2, fun hn => ⟨r1, r2, fun _ => r1, fun _ => r2, fun _ => r1, fun _ => r2, fun _ => trivial, ?_⟩, fun he => ⟨by simp only [Z.in64]; omega, rfl, ⟨k + 1, by show (k : Int) + 1 = ((k + 1 : Nat) : Int); omega, by omega, fun j hj => ?_⟩, ?_⟩⟩
  · have hn : (!(((B.1.getD k (0, 0)).1 == (W.getD k (0, 0)).1) && ((B.1.getD k (0, 0)).2 == (W.getD k (0, 0)).2))) = true := hn
    have hne : B.1.getD k (0, 0) ≠ W.getD k (0, 0) := by
      intro e
      rw [e] at hn
      simp at hn
    have ht := lex_at k hlex (by omega) (by omega) hsame hne
    show ((decide ((B.1.getD k (0, 0)).1 < (W.getD k (0, 0)).1) || (((B.1.getD k (0, 0)).1 == (W.getD k (0, 0)).1) && decide ((B.1.getD k (0, 0)).2 < (W.getD k (0, 0)).2))) && true) = true
    rcases ht with ht | ⟨ht1, ht2⟩
    · rw [decide_eq_true ht]; rfl
    · rw [ht1, decide_eq_true ht2]; simp
  · have he : (!(((B.1.getD k (0, 0)).1 == (W.getD k (0, 0)).1) && ((B.1.getD k (0, 0)).2 == (W.getD k (0, 0)).2))) = false := he
    have he := not_iff.2.1 he
    rw [Bool.and_eq_true] at he
    by_cases hjk : j = k
    · subst hjk
      exact Prod.ext (eq_of_beq he.1) (eq_of_beq he.2)
    · exact hsame j (by omega)
  · show ((B.1.length : Int) - ((k : Int) + 1)).toNat < ((B.1.length : Int) - (k : Int)).toNat; omega
end Go.Hue
