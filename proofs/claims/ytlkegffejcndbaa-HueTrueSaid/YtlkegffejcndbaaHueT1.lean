/-
  Chapter 8: the law HueTrue.
-/
import Derived.Test.YtlkegffejcndbaaHueT0
set_option linter.all false


set_option maxRecDepth 100000
namespace Go.Hue
open Go Go.Sx

theorem ixF_get {α : Type} (p : α → Bool) (d : α) : ∀ (l : List α) (i : Int), 0 ≤ i → 0 ≤ ixF p l i → i ≤ ixF p l i ∧ ixF p l i < i + (l.length : Int) ∧ p (l.getD (ixF p l i - i).toNat d) = true
  | [], i, _, h => by simp [ixF] at h
  | a :: l, i, h0, h => by
    simp only [ixF] at h ⊢
    cases ha : p a with
    | true =>
      rw [cond_true]
      refine ⟨Int.le_refl _, by simp only [List.length_cons]; omega, ?_⟩
      rw [Int.sub_self]
      exact ha
    | false =>
      rw [ha, cond_false] at h
      obtain ⟨h1, h2, h3⟩ := ixF_get p d l (i + 1) (by omega) h
      rw [cond_false]
      refine ⟨by omega, by simp only [List.length_cons]; omega, ?_⟩
      rw [show (ixF p l (i + 1) - i).toNat = (ixF p l (i + 1) - (i + 1)).toNat + 1 by omega]
      exact h3
/-- What shows, and by what. -/
theorem showGo_get {m : Mill} {l : List Hue} {plan : List Turn} : ∀ n i, (showGo m l plan n i).2.2 = 0 → ∃ (t k : Nat), showGo m l plan n i = ((t : Int), (k : Int), 0) ∧ i ≤ t ∧ t < i + n ∧ k < t ∧ (hueAt l plan t).2.1 < stHi m l plan k t ∧ ∀ j, i ≤ j → j < t → ¬ 0 ≤ showAt m l plan j
  | 0, i, h => by cases h
  | n + 1, i, h => by
    simp only [showGo] at h ⊢
    cases hs : decide (0 ≤ showAt m l plan i) with
    | true =>
      have hs := of_decide_eq_true hs
      rw [cond_true]
      obtain ⟨h1, h2, h3⟩ := ixF_get (fun n => decide ((hueAt l plan i).2.1 < n)) 0 ((List.range i).map fun k => stHi m l plan k i) 0 (Int.le_refl _) hs
      rw [List.length_map, List.length_range] at h2
      have h2 : showAt m l plan i < 0 + (i : Int) := h2
      obtain ⟨k, hk⟩ : ∃ k : Nat, showAt m l plan i = (k : Int) := ⟨(showAt m l plan i).toNat, by omega⟩
      have hki : k < i := by omega
      refine ⟨i, k, by rw [hk], Nat.le_refl _, by omega, hki, ?_, fun j g1 g2 => by omega⟩
      have h3 : decide ((hueAt l plan i).2.1 < ((List.range i).map fun k => stHi m l plan k i).getD (showAt m l plan i - 0).toNat 0) = true := h3
      rw [show (showAt m l plan i - 0).toNat = k by omega, range_getD _ _ hki] at h3
      exact of_decide_eq_true h3
    | false =>
      rw [hs, cond_false] at h
      rw [cond_false]
      obtain ⟨t, k, g1, g2, g3, g4, g5, g6⟩ := showGo_get n (i + 1) h
      refine ⟨t, k, g1, by omega, by omega, g4, g5, fun j h1 h2 => ?_⟩
      by_cases hj : j = i
      · subst hj; exact of_decide_eq_false hs
      · exact g6 j (by omega) h2
theorem great_mem (f : Nat → Int) (a : Int) : ∀ n k, k < n → f k ≤ great ((List.range n).map f) a
  | 0, k, hk => by omega
  | n + 1, k, hk => by
    rw [great_range]
    by_cases hkn : k = n
    · subst hkn; omega
    · have := great_mem f a n k (by omega); omega
/-- What was true lies between the ends. -/
theorem deep_within {m : Mill} {l : List Hue} {plan : List Turn} {run wash : Int} {ds : List Int} (hr : m.1.1 ≤ run ∧ run ≤ m.1.2) (hw : m.2.1.1 ≤ wash ∧ wash ≤ m.2.1.2) (ht : ∀ i, 0 ≤ (plan.getD i (0, 0)).2 ∧ (plan.getD i (0, 0)).2 ≤ 2)
    (hd : ∀ k, k < plan.length → dLo (hueAt l plan k) ≤ ds.getD (plan.getD k (0, 0)).1.toNat 0 ∧ ds.getD (plan.getD k (0, 0)).1.toNat 0 ≤ dHi (hueAt l plan k)) {i : Nat} (hi : i < plan.length) :
    (inS m l plan i).1 ≤ deepAt plan run wash ds i ∧ deepAt plan run wash ds i ≤ (inS m l plan i).2 := by
  have key : ∀ k, k < i → stLo m l plan k i ≤ dp plan run wash ds k i ∧ dp plan run wash ds k i ≤ stHi m l plan k i := by
    intro k hk
    have h1 := hd k (by omega)
    have h2 := (wsum_bd ht (i - k) k).1
    have h3 : (0 : Int) ≤ (i : Int) - 1 - k := by omega
    have q1 := Int.mul_le_mul_of_nonneg_right hr.1 h3
    have q2 := Int.mul_le_mul_of_nonneg_right hr.2 h3
    have q3 := Int.mul_le_mul_of_nonneg_right hw.1 h2
    have q4 := Int.mul_le_mul_of_nonneg_right hw.2 h2
    unfold stLo stHi stv dp
    rw [show ((i : Int) - k - 1) = (i : Int) - 1 - k by omega]
    omega
  exact ⟨great_mono _ _ 0 i fun k hk => (key k hk).1, great_mono _ _ 0 i fun k hk => (key k hk).2⟩
theorem tp {m : Mill} {l : List Hue} {plan : List Turn} {by_ lo hi : List Int} {s1 : Int} {K1 : Int → Prop} (hv : validB m l = true) (hpl : planB l plan = true) (hs : s1 = 1 → showsV m l plan = (0, 0, 4)) (hs1 : 0 ≤ s1 ∧ s1 < 2)
    (hr : m.1.1 ≤ law08u_pick (m.1, by_.getD (Int.toNat 0) 0) ∧ law08u_pick (m.1, by_.getD (Int.toNat 0) 0) ≤ m.1.2)
    (hw : m.2.1.1 ≤ law08u_pick (m.2.1, by_.getD (Int.toNat ((by_.length : Int) - 1)) 0) ∧ law08u_pick (m.2.1, by_.getD (Int.toNat ((by_.length : Int) - 1)) 0) ≤ m.2.1.2)
    (hlo : lo.length = l.length) (hhi : hi.length = l.length)
    (hd : ∀ j, j < l.length → (l.getD j ((0, 0), 0, 0)).1.1 ≤ lo.getD j 0 ∧ lo.getD j 0 ≤ (l.getD j ((0, 0), 0, 0)).1.2)
    (hh : ∀ j, j < l.length → (l.getD j ((0, 0), 0, 0)).2.1 ≤ hi.getD j 0) (hK : K1 (s1 + 1)) : TP m l plan by_ lo hi s1 K1 := by
  have HV := valid_iff.1 hv
  have HP := plan_iff.1 hpl
  have hp12 := HP.len
  obtain ⟨S, hS⟩ : ∃ S, S = (List.range plan.length).map (inS m l plan) := ⟨_, rfl⟩
  have e : hue_Stains (m, l, plan) = (S, 0) := by rw [stains_ok hv hpl, hS]
  have hSl : S.length = plan.length := by rw [hS, List.length_map, List.length_range]
  have hSg : ∀ i, i < plan.length → S.getD i (0, 0) = inS m l plan i := fun i hi => by rw [hS]; exact range_getD _ _ hi
  obtain ⟨G, hG⟩ : ∃ G, G = showGo m l plan plan.length 0 := ⟨_, rfl⟩
  have eG : hue_Shows (m, l, plan) = G := by show showsV m l plan = _; rw [shows_ok hv hpl, hG]
  obtain ⟨k1, k2, k3⟩ := showGo_iff (m := m) (l := l) (plan := plan) plan.length 0
  have k4 := showGo_get (m := m) (l := l) (plan := plan) plan.length 0
  rw [← hG] at k1 k2 k3 k4
  obtain ⟨D, hD⟩ : ∃ D, D = law08u_deep (plan, law08u_pick (m.1, by_.getD (Int.toNat 0) 0), law08u_pick (m.2.1, by_.getD (Int.toNat ((by_.length : Int) - 1)) 0), lo) := ⟨_, rfl⟩
  have hDl : D.length = plan.length := by rw [hD]; show ((List.range plan.length).map _).length = _; rw [List.length_map, List.length_range]
  have htj : ∀ k, k < plan.length → (plan.getD k (0, 0)).1.toNat < l.length := fun k hk => by
    have := HP.turn _ (getD_mem plan (0, 0) k hk)
    omega
  have hDg : ∀ i, i < plan.length → D.getD i 0 = deepAt plan (law08u_pick (m.1, by_.getD (Int.toNat 0) 0)) (law08u_pick (m.2.1, by_.getD (Int.toNat ((by_.length : Int) - 1)) 0)) lo i := fun i hi => by rw [hD]; exact range_getD _ _ hi
  have hin : ∀ i, i < plan.length → (inS m l plan i).1 ≤ D.getD i 0 ∧ D.getD i 0 ≤ (inS m l plan i).2 := fun i hi => by
    rw [hDg i hi]
    exact deep_within hr hw (turnD HP) (fun k hk => hd _ (htj k hk)) hi
  unfold TP
  rw [e, eG, ← hD]
  refine ⟨trivial, trivial, fun hx => ?_, fun _ => ⟨?_, ?_⟩⟩
  · rw [hSl] at hx
    have e1 : (!((0 : Int) == 0)) = false := rfl
    have e2 : (!((plan.length : Int) == (plan.length : Int))) = false := by simp
    rcases k2 with h4 | h4
    · rw [e2, h4] at hx
      simp at hx
    · rw [e2, h4] at hx
      have : s1 = 1 := by simpa using hx
      have := hs this
      rw [shows_ok hv hpl, ← hG] at this
      rw [this] at h4; cases h4
  · have qr : 0 ≤ law08u_pick (m.1, by_.getD (Int.toNat 0) 0) ∧ law08u_pick (m.1, by_.getD (Int.toNat 0) 0) ≤ 10000 := by have := HV.run; omega
    have qw : 0 ≤ law08u_pick (m.2.1, by_.getD (Int.toNat ((by_.length : Int) - 1)) 0) ∧ law08u_pick (m.2.1, by_.getD (Int.toNat ((by_.length : Int) - 1)) 0) ≤ 10000 := by have := HV.wash; omega
    refine ⟨hp12, fun t ht => ?_, qr, qw, fun d hdm => ?_⟩
    · show 0 ≤ t.1 ∧ t.1 < (lo.length : Int) ∧ 0 ≤ t.2 ∧ t.2 ≤ 2
      rw [hlo]; exact HP.turn t ht
    · obtain ⟨j, hj⟩ := List.getElem?_of_mem hdm
      have hjl : j < lo.length := (List.getElem?_eq_some_iff.1 hj).1
      have ej : lo.getD j 0 = d := by simp [List.getD, hj]
      have h1 := hd j (by omega)
      have h2 := HV.hue _ (getD_mem l ((0, 0), 0, 0) j (by omega))
      rw [ej] at h1
      omega
  refine ⟨fun s => 0 ≤ s ∧ s ≤ (plan.length : Int), fun s => ((plan.length : Int) - s).toNat, ⟨by omega, by omega⟩, ?_⟩
  rintro j0 ⟨g1, g2⟩
  obtain ⟨j, rfl⟩ : ∃ n : Nat, j0 = (n : Int) := ⟨j0.toNat, by omega⟩
  refine ⟨fun h => ?_, fun h => ?_⟩
  · have h : (j : Int) < (plan.length : Int) := of_decide_eq_true h
    have hj : j < plan.length := by omega
    have e1 : S.getD (Int.toNat (j : Int)) (0, 0) = inS m l plan j := hSg j hj
    have hi1 := hin j hj
    have ht := HP.turn _ (getD_mem plan (0, 0) j hj)
    rw [e1]
    have e2 : D.getD (Int.toNat (j : Int)) 0 = D.getD j 0 := rfl
    rw [e2]
    have hrg : 0 ≤ (j : Int) ∧ (j : Int) < (D.length : Int) := ⟨g1, by rw [hDl]; exact h⟩
    have hrg2 : 0 ≤ (j : Int) ∧ (j : Int) < (S.length : Int) := ⟨g1, by rw [hSl]; exact h⟩
    have d1 : decide (D.getD j 0 < (inS m l plan j).1) = false := decide_eq_false (by omega)
    have d2 : decide ((inS m l plan j).2 < D.getD j 0) = false := decide_eq_false (by omega)
    rw [d1, d2]
    refine ⟨hrg, hrg2, fun _ => hrg, fun _ => hrg2, fun hx => (by cases hx), fun _ => ⟨hrg, ⟨g1, h⟩, ⟨ht.1, by rw [hhi]; exact ht.2.1⟩, fun hx => ?_, fun _ => ⟨by simp only [Z.in64]; omega, rfl, rfl, ⟨by omega, by omega⟩, show ((plan.length : Int) - ((j : Int) + 1)).toNat < ((plan.length : Int) - (j : Int)).toNat by omega⟩⟩⟩
    rw [Bool.and_eq_true, Bool.or_eq_true] at hx
    obtain ⟨hx1, hx2⟩ := hx
    have hx1 : hi.getD (Int.toNat (plan.getD j (0, 0)).1) 0 < D.getD j 0 := of_decide_eq_true hx1
    have hns : ¬ 0 ≤ showAt m l plan j := by
      rcases hx2 with hx2 | hx2
      · have hx2 : G.2.2 = 4 := by simpa using hx2
        exact k1.1 hx2 j (by omega) (by omega)
      · have hx2 : (j : Int) < G.1 := of_decide_eq_true hx2
        rcases k2 with h4 | h4
        · exact k1.1 h4 j (by omega) (by omega)
        · obtain ⟨t, k, q1, _, _, _, _, q6⟩ := k4 h4
          rw [q1] at hx2
          have hx2 : (j : Int) < (t : Int) := hx2
          exact q6 j (by omega) (by omega)
    have h2 := HV.hue _ (getD_mem l ((0, 0), 0, 0) _ (htj j hj))
    have h5 := hides (m := m) (l := l) (plan := plan) (i := j) h2.2.1 hns
    have h6 := hh _ (htj j hj)
    have h7 : (hueAt l plan j).2.1 = (l.getD (plan.getD j (0, 0)).1.toNat ((0, 0), 0, 0)).2.1 := rfl
    omega
  · rcases k2 with h4 | h4
    · have z : (G.2.2 == 0) = false := by rw [h4]; rfl
      rw [z]
      exact ⟨fun hx => absurd hx.2 (by simp), fun hx => absurd hx.2 (by simp), fun hx => absurd hx.2 (by simp), fun hx => (by cases hx), fun _ => ⟨by simp only [Z.in64]; omega, rfl, rfl, hK⟩⟩
    · obtain ⟨t, k, q1, _, q3, q4, q5, _⟩ := k4 h4
      rw [q1]
      have ht : t < plan.length := by omega
      have htt := HP.turn _ (getD_mem plan (0, 0) t ht)
      have e1 : S.getD (Int.toNat (t : Int)) (0, 0) = inS m l plan t := hSg t ht
      refine ⟨fun _ => ⟨by show (0 : Int) ≤ (t : Int); omega, by show (t : Int) < (S.length : Int); rw [hSl]; omega⟩, fun _ => ⟨by show (0 : Int) ≤ (t : Int); omega, by show (t : Int) < (plan.length : Int); omega⟩, fun _ => ⟨htt.1, htt.2.1⟩, fun hx => ?_, fun _ => ⟨by simp only [Z.in64]; omega, rfl, rfl, hK⟩⟩
      have hge : stHi m l plan k t ≤ (inS m l plan t).2 := great_mem (fun k => stHi m l plan k t) 0 t k q4
      have hx : (((0 : Int) == 0) && ((((decide ((t : Int) < 1) || decide ((plan.length : Int) ≤ (t : Int))) || decide ((k : Int) < 0)) || decide ((t : Int) ≤ (k : Int))) || decide ((S.getD (Int.toNat (t : Int)) (0, 0)).2 ≤ (hueAt l plan t).2.1))) = true := hx
      rw [e1, decide_eq_false (by omega), decide_eq_false (by omega), decide_eq_false (by omega), decide_eq_false (by omega), decide_eq_false (by omega)] at hx
      cases hx
end Go.Hue
