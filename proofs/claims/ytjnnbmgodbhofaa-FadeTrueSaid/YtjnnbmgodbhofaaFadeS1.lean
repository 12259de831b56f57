/-
  Chapter 12: FadeTrue: the cards and the truth that are drawn.
-/
import Derived.Test.YtjnnbmgodbhofaaFadeAuto2
import Derived.Test.YtjnnbmgodbhofaaFadeO3
set_option linter.all false


set_option maxRecDepth 1000000
namespace Go.Fade
open Go Go.Sx

theorem tabs_ok2 : TabsOk Go.Proofs.Try.prog T2 := by
  refine ⟨by kernel_rfl, fun p hp => ?_⟩
  simp only [T2, List.mem_singleton] at hp
  subst hp
  exact tabs_ok.mty _ (by simp [T])
theorem wrap_id {n : Int} (h1 : -9223372036854775808 ≤ n) (h2 : n ≤ 9223372036854775807) : Go.IntKind.wrap .i64 n = n := by
  rw [IntKind.wrap_i64]; omega
theorem tmod_bd {a n : Int} (ha : 0 ≤ a) (hn : 0 < n) : 0 ≤ Int.tmod a n ∧ Int.tmod a n < n := by
  rw [Int.tmod_eq_emod_of_nonneg ha]
  exact ⟨Int.emod_nonneg _ (by omega), Int.emod_lt_of_pos _ hn⟩
theorem bs_len {bs : List Int} (h : BsOk bs) : 0 < (bs.length : Int) := by
  have := h.1.1
  cases bs with
  | nil => exact absurd rfl this
  | cons _ _ => simp only [List.length_cons]; omega
theorem bs_at {bs : List Int} (h : BsOk bs) {z : Int} (hz : 0 ≤ z) : (0 ≤ Int.tmod z (bs.length : Int) ∧ Int.tmod z (bs.length : Int) < (bs.length : Int)) ∧ 0 ≤ bs.getD (Int.toNat (Int.tmod z (bs.length : Int))) 0 ∧ bs.getD (Int.toNat (Int.tmod z (bs.length : Int))) 0 ≤ 4294967295 := by
  have hm := tmod_bd hz (bs_len h)
  exact ⟨hm, h.2 _ (getD_mem' bs 0 _ hm.1 hm.2)⟩
theorem fdiv_bd {b : Int} (k : Nat) (h1 : 0 ≤ b) : 0 ≤ Int.fdiv b (2 ^ k) ∧ Int.fdiv b (2 ^ k) ≤ b := by
  have hpos : (0 : Int) < 2 ^ k := Int.pow_pos (by decide)
  rw [Int.fdiv_eq_ediv_of_nonneg _ (Int.le_of_lt hpos)]
  exact ⟨Int.ediv_nonneg h1 (Int.le_of_lt hpos), Int.ediv_le_self _ h1⟩
theorem draw_bd {bs : List Int} (h : BsOk bs) {z n : Int} (hz : 0 ≤ z) (hn : 0 < n) : 0 ≤ drawV bs z n ∧ drawV bs z n < n := by
  obtain ⟨_, h1, h2⟩ := bs_at h (z := z + 1) (by omega)
  obtain ⟨h3, h4⟩ := fdiv_bd (Int.toNat (Int.tmod (z + 1) 9)) h1
  unfold drawV
  rw [wrap_id (by omega) (by omega)]
  exact tmod_bd h3 hn
theorem pick_bd {s : Span} {b : Int} (hs : (0 ≤ s.1 ∧ s.1 ≤ s.2) ∧ s.2 ≤ 1000000) (hb : 0 ≤ b ∧ b ≤ 4294967295) : s.1 ≤ pickV s b ∧ pickV s b ≤ s.2 := by
  unfold pickV
  rw [wrap_id (by omega) (by omega)]
  have := tmod_bd hb.1 (show (0 : Int) < s.2 - s.1 + 1 by omega)
  omega
theorem v57 (x : Int × Int × List Int) (hp : k57.pre x) : V57 x := by
  obtain ⟨n, z, bs⟩ := x
  obtain ⟨⟨⟨h1, h2⟩, h3, h4⟩, hb⟩ : ((0 < n ∧ n ≤ 4294967295) ∧ 0 ≤ z ∧ z ≤ 1152921504606846976) ∧ BsOk bs := hp
  have hl := bs_len hb
  obtain ⟨g1, _⟩ := bs_at hb (z := z + 1) (by omega)
  have g9 := tmod_bd (show 0 ≤ z + 1 by omega) (show (0 : Int) < 9 by omega)
  exact ⟨by simp only [Z.in64]; omega, by show ((bs.length : Int)) ≠ 0; omega, g1, by omega, ⟨g9.1, by show Int.tmod (z + 1) 9 ≤ 32; omega⟩, by show n ≠ 0; omega, rfl⟩
theorem v58 (x : Span × Int) (hp : k58.pre x) : V58 x := by
  obtain ⟨s, b⟩ := x
  obtain ⟨hs, hb⟩ : ((0 ≤ s.1 ∧ s.1 ≤ s.2) ∧ s.2 ≤ 1000000) ∧ 0 ≤ b ∧ b ≤ 4294967295 := hp
  have := pick_bd hs hb
  unfold pickV at this
  exact ⟨by simp only [Z.in64]; omega, by simp only [Z.in64]; omega, by show s.2 - s.1 + 1 ≠ 0; omega, by simp only [Z.in64]; omega, rfl⟩

/-! ### What has been drawn -/
structure LOk (months : List Span) (k : Nat) (l : List Int) : Prop where
  len : l.length = k + 1
  zero : l.getD 0 0 = 0
  inc : ∀ j, j < k → (months.getD j (0, 0)).1 ≤ l.getD (j + 1) 0 - l.getD j 0 ∧ l.getD (j + 1) 0 - l.getD j 0 ≤ (months.getD j (0, 0)).2
  bd : ∀ j, j ≤ k → 0 ≤ l.getD j 0 ∧ l.getD j 0 ≤ 1000000 * (j : Int)
def MsOk (months : List Span) : Prop := months.length ≤ 12 ∧ ∀ s ∈ months, (0 ≤ s.1 ∧ s.1 ≤ s.2) ∧ s.2 ≤ 1000000
theorem ms_at {months : List Span} (h : MsOk months) {j : Nat} (hj : j < months.length) : (0 ≤ (months.getD j (0, 0)).1 ∧ (months.getD j (0, 0)).1 ≤ (months.getD j (0, 0)).2) ∧ (months.getD j (0, 0)).2 ≤ 1000000 := h.2 _ (getD_mem months (0, 0) j hj)
theorem lights_in {months : List Span} {bs : List Int} (h : MsOk months) (hb : BsOk bs) : ∀ k, k ≤ months.length → LOk months k (itn (stepM months bs) k [0])
  | 0, _ => ⟨rfl, rfl, fun j hj => by omega, fun j hj => by
      obtain rfl : j = 0 := by omega
      show (0 : Int) ≤ 0 ∧ (0 : Int) ≤ _; omega⟩
  | k + 1, hk => by
    have ih := lights_in h hb k (by omega)
    have hs := ms_at h (show k < months.length by omega)
    have hp := pick_bd hs (bs_at hb (z := (k : Int)) (by omega)).2
    have e : itn (stepM months bs) (k + 1) [0] = itn (stepM months bs) k [0] ++ [(itn (stepM months bs) k [0]).getD k 0 + pickV (months.getD k (0, 0)) (bs.getD (Int.toNat (Int.tmod (k : Int) (bs.length : Int))) 0)] := rfl
    rw [e]
    generalize itn (stepM months bs) k [0] = l at ih
    generalize pickV (months.getD k (0, 0)) (bs.getD (Int.toNat (Int.tmod (k : Int) (bs.length : Int))) 0) = p at hp
    have hl := ih.len
    have hk0 := ih.bd k (Nat.le_refl _)
    have hnew : (l ++ [l.getD k 0 + p]).getD (k + 1) 0 = l.getD k 0 + p := by
      have := getD_app2 l (l.getD k 0 + p) 0
      rwa [hl] at this
    refine ⟨by simp [hl], by rw [getD_app1 _ _ _ (by omega)]; exact ih.zero, fun j hj => ?_, fun j hj => ?_⟩
    · by_cases hjk : j = k
      · subst hjk
        rw [hnew, getD_app1 _ _ _ (by omega)]
        omega
      · rw [getD_app1 _ _ _ (by omega), getD_app1 _ _ _ (by omega)]
        exact ih.inc j (by omega)
    · by_cases hjk : j = k + 1
      · subst hjk
        rw [hnew]; omega
      · rw [getD_app1 _ _ _ (by omega)]
        exact ih.bd j (by omega)
def AOk (A : Int) : Prop := 2 ≤ A ∧ A ≤ 12000002
theorem a_div {A : Int} (h : AOk A) : (0 ≤ Int.tdiv A 3 ∧ Int.tdiv A 3 ≤ 4000000) ∧ (0 ≤ Int.tdiv A 4 ∧ Int.tdiv A 4 ≤ 3000000) ∧ 0 ≤ Int.tdiv A 8 ∧ Int.tdiv A 8 ≤ 1500000 := by
  obtain ⟨h1, h2⟩ := h
  rw [Int.tdiv_eq_ediv_of_nonneg (by omega), Int.tdiv_eq_ediv_of_nonneg (by omega), Int.tdiv_eq_ediv_of_nonneg (by omega)]
  omega
theorem lights_a {months : List Span} {bs : List Int} (h : MsOk months) (hb : BsOk bs) : AOk ((lightsV months bs).getD months.length 0 + 2) := by
  have := (lights_in h hb months.length (Nat.le_refl _)).bd months.length (Nat.le_refl _)
  have hl := h.1
  unfold lightsV AOk
  omega
structure ROk (k : Nat) (s : RSt) : Prop where
  z : s.1 = 3 * (k : Int)
  aat : 0 ≤ s.2.1 ∧ s.2.1 ≤ 4000001 * (k : Int)
  lr : s.2.2.1.length = k
  ls : s.2.2.2.length = k
  inn : ∀ j, j < k → ((s.2.2.2.getD j (0, 0)).1 ≤ s.2.2.1.getD j 0 ∧ s.2.2.1.getD j 0 ≤ (s.2.2.2.getD j (0, 0)).2) ∧ 1 ≤ s.2.2.1.getD j 0 ∧ s.2.2.1.getD j 0 ≤ s.2.1
  inc : ∀ j, j + 1 < k → s.2.2.1.getD j 0 + 1 ≤ s.2.2.1.getD (j + 1) 0
theorem refs_step {bs : List Int} {A : Int} (hb : BsOk bs) (hA : AOk A) {k : Nat} {s : RSt} (h : ROk k s) : ROk (k + 1) (stepR bs A k s) := by
  obtain ⟨z, a, rs, ss⟩ := s
  obtain ⟨h1, h2, h3, h4, h5, h6⟩ := h
  have h1 : z = 3 * (k : Int) := h1
  have h2 : 0 ≤ a ∧ a ≤ 4000001 * (k : Int) := h2
  have h3 : rs.length = k := h3
  have h4 : ss.length = k := h4
  obtain ⟨q3, q4, _⟩ := a_div hA
  have d1 := draw_bd hb (z := z) (n := Int.tdiv A 3 + 1) (by omega) (by omega)
  have d2 := draw_bd hb (z := z + 1) (n := Int.tdiv A 4 + 1) (by omega) (by omega)
  have d3 := draw_bd hb (z := z + 1 + 1) (n := Int.tdiv A 4 + 1) (by omega) (by omega)
  show ROk (k + 1) (z + 1 + 1 + 1, a + (1 + drawV bs z (Int.tdiv A 3 + 1)), rs ++ [a + (1 + drawV bs z (Int.tdiv A 3 + 1))], ss ++ [(max 1 ((a + (1 + drawV bs z (Int.tdiv A 3 + 1))) - drawV bs (z + 1) (Int.tdiv A 4 + 1)), (a + (1 + drawV bs z (Int.tdiv A 3 + 1))) + drawV bs (z + 1 + 1) (Int.tdiv A 4 + 1))])
  generalize drawV bs z (Int.tdiv A 3 + 1) = p at d1
  generalize drawV bs (z + 1) (Int.tdiv A 4 + 1) = q at d2
  generalize drawV bs (z + 1 + 1) (Int.tdiv A 4 + 1) = r at d3
  have e1 : (rs ++ [a + (1 + p)]).getD k 0 = a + (1 + p) := by have := getD_app2 rs (a + (1 + p)) 0; rwa [h3] at this
  have e2 : (ss ++ [(max 1 ((a + (1 + p)) - q), (a + (1 + p)) + r)]).getD k (0, 0) = (max 1 ((a + (1 + p)) - q), (a + (1 + p)) + r) := by
    have := getD_app2 ss (max 1 ((a + (1 + p)) - q), (a + (1 + p)) + r) (0, 0); rwa [h4] at this
  refine ⟨by show z + 1 + 1 + 1 = _; omega, ⟨by show 0 ≤ a + (1 + p); omega, by show a + (1 + p) ≤ _; omega⟩, by simp [h3], by simp [h4], fun j hj => ?_, fun j hj => ?_⟩
  · show (((ss ++ [(max 1 ((a + (1 + p)) - q), (a + (1 + p)) + r)]).getD j (0, 0)).1 ≤ (rs ++ [a + (1 + p)]).getD j 0 ∧ (rs ++ [a + (1 + p)]).getD j 0 ≤ ((ss ++ [(max 1 ((a + (1 + p)) - q), (a + (1 + p)) + r)]).getD j (0, 0)).2) ∧ 1 ≤ (rs ++ [a + (1 + p)]).getD j 0 ∧ (rs ++ [a + (1 + p)]).getD j 0 ≤ a + (1 + p)
    by_cases hjk : j = k
    · subst hjk
      rw [e1, e2]
      simp only
      omega
    · rw [getD_app1 _ _ _ (by omega), getD_app1 _ _ _ (by omega)]
      have h7 : ((ss.getD j (0, 0)).1 ≤ rs.getD j 0 ∧ rs.getD j 0 ≤ (ss.getD j (0, 0)).2) ∧ 1 ≤ rs.getD j 0 ∧ rs.getD j 0 ≤ a := h5 j (by omega)
      omega
  · show (rs ++ [a + (1 + p)]).getD j 0 + 1 ≤ (rs ++ [a + (1 + p)]).getD (j + 1) 0
    by_cases hjk : j + 1 = k
    · rw [hjk, e1, getD_app1 _ _ _ (by omega)]
      have h7 : ((ss.getD j (0, 0)).1 ≤ rs.getD j 0 ∧ rs.getD j 0 ≤ (ss.getD j (0, 0)).2) ∧ 1 ≤ rs.getD j 0 ∧ rs.getD j 0 ≤ a := h5 j (by omega)
      omega
    · rw [getD_app1 _ _ _ (by omega), getD_app1 _ _ _ (by omega)]
      exact h6 j (by omega)
theorem refs_ok {bs : List Int} {A : Int} (hb : BsOk bs) (hA : AOk A) : ∀ k, ROk k (itn (stepR bs A) k (0, 0, [], []))
  | 0 => ⟨rfl, ⟨by show (0 : Int) ≤ 0; omega, by show (0 : Int) ≤ _; omega⟩, rfl, rfl, fun j hj => by omega, fun j hj => by omega⟩
  | k + 1 => refs_step hb hA (refs_ok hb hA k)
structure SOk (z₀ : Int) (k : Nat) (s : SSt) : Prop where
  z : s.1 = z₀ + (k : Int)
  len : s.2.length = k
  inn : ∀ j, j < k → 1 ≤ s.2.getD j 0 ∧ s.2.getD j 0 ≤ 16777216
theorem samples_step {bs : List Int} {A z₀ : Int} (hb : BsOk bs) (hA : AOk A) (hz : 0 ≤ z₀) {k : Nat} {s : SSt} (h : SOk z₀ k s) : SOk z₀ (k + 1) (stepS bs A k s) := by
  obtain ⟨z, ss⟩ := s
  obtain ⟨h1, h2, h3⟩ := h
  have h1 : z = z₀ + (k : Int) := h1
  have h2 : ss.length = k := h2
  obtain ⟨_, _, q8⟩ := a_div hA
  have hA' := hA
  unfold AOk at hA'
  have d1 := draw_bd hb (z := z) (n := A + Int.tdiv A 8 + 1) (by omega) (by omega)
  show SOk z₀ (k + 1) (z + 1, ss ++ [1 + drawV bs z (A + Int.tdiv A 8 + 1)])
  generalize drawV bs z (A + Int.tdiv A 8 + 1) = p at d1
  refine ⟨by show z + 1 = _; omega, by simp [h2], fun j hj => ?_⟩
  show 1 ≤ (ss ++ [1 + p]).getD j 0 ∧ (ss ++ [1 + p]).getD j 0 ≤ 16777216
  by_cases hjk : j = k
  · have e1 : (ss ++ [1 + p]).getD k 0 = 1 + p := by have := getD_app2 ss (1 + p) 0; rwa [h2] at this
    rw [hjk, e1]; omega
  · rw [getD_app1 _ _ _ (by omega)]
    exact h3 j (by omega)
theorem samples_ok {bs : List Int} {A z₀ : Int} (hb : BsOk bs) (hA : AOk A) (hz : 0 ≤ z₀) : ∀ k, SOk z₀ k (itn (stepS bs A) k (z₀, []))
  | 0 => ⟨by show z₀ = z₀ + ((0 : Nat) : Int); omega, rfl, fun j hj => by omega⟩
  | k + 1 => samples_step hb hA hz (samples_ok hb hA hz k)
def ChkOk (lights refs samples : List Int) (n : Nat) (c : Check) : Prop :=
  (0 ≤ c.1 ∧ c.1 ≤ (n : Int)) ∧ ((c.2.1 = 0 ∧ (0 ≤ c.2.2.1 ∧ c.2.2.1 < (refs.length : Int)) ∧ c.2.2.2 = decide (refs.getD c.2.2.1.toNat 0 ≤ lights.getD c.1.toNat 0)) ∨ (c.2.1 = 1 ∧ (0 ≤ c.2.2.1 ∧ c.2.2.1 < (samples.length : Int)) ∧ c.2.2.2 = decide (samples.getD c.2.2.1.toNat 0 ≤ lights.getD c.1.toNat 0)))
structure COk (lights refs samples : List Int) (n : Nat) (z₀ : Int) (k : Nat) (s : CSt) : Prop where
  z : z₀ ≤ s.1 ∧ s.1 ≤ z₀ + 3 * (k : Int)
  len : s.2.length ≤ 40
  inn : ∀ c ∈ s.2, ChkOk lights refs samples n c
theorem checks_step {bs lights refs samples : List Int} {n : Nat} {z₀ : Int} (hb : BsOk bs) (hz : 0 ≤ z₀) {k : Nat} {s : CSt} (h : COk lights refs samples n z₀ k s) : COk lights refs samples n z₀ (k + 1) (stepC bs lights refs samples (n : Int) k s) := by
  obtain ⟨z, cs⟩ := s
  obtain ⟨h1, h2, h3⟩ := h
  have h1 : z₀ ≤ z ∧ z ≤ z₀ + 3 * (k : Int) := h1
  have h2 : cs.length ≤ 40 := h2
  have d1 := draw_bd hb (z := z) (n := (n : Int) + 1) (by omega) (by omega)
  have d2 := draw_bd hb (z := z + 1) (n := 2) (by omega) (by omega)
  have e : stepC bs lights refs samples (n : Int) k (z, cs) = cond (decide ((0 : Int) < ((cond (drawV bs (z + 1) 2 == 1) samples refs).length : Int)) && decide ((cs.length : Int) < 40)) (z + 1 + 1 + 1, cs ++ [checkV bs lights refs samples (n : Int) z]) (z + 1 + 1, cs) := rfl
  rw [e]
  cases hc : (decide ((0 : Int) < ((cond (drawV bs (z + 1) 2 == 1) samples refs).length : Int)) && decide ((cs.length : Int) < 40)) with
  | false => exact ⟨⟨by show z₀ ≤ z + 1 + 1; omega, by show z + 1 + 1 ≤ _; omega⟩, h2, h3⟩
  | true =>
    simp only [Bool.and_eq_true, decide_eq_true_eq] at hc
    obtain ⟨c1, c2⟩ := hc
    refine ⟨⟨by show z₀ ≤ z + 1 + 1 + 1; omega, by show z + 1 + 1 + 1 ≤ _; omega⟩, by show (cs ++ [_]).length ≤ 40; simp; omega, fun c hc => ?_⟩
    rcases List.mem_append.1 hc with hc | hc
    · exact h3 c hc
    · obtain rfl := List.mem_singleton.1 hc
      have d3 := draw_bd hb (z := z + 1 + 1) (n := ((cond (drawV bs (z + 1) 2 == 1) samples refs).length : Int)) (by omega) c1
      obtain ⟨tk, htk⟩ : ∃ tk, tk = cond (drawV bs (z + 1) 2 == 1) samples refs := ⟨_, rfl⟩
      have e5 : checkV bs lights refs samples (n : Int) z = (drawV bs z ((n : Int) + 1), drawV bs (z + 1) 2, drawV bs (z + 1 + 1) (tk.length : Int), decide (tk.getD (drawV bs (z + 1 + 1) (tk.length : Int)).toNat 0 ≤ lights.getD (drawV bs z ((n : Int) + 1)).toNat 0)) := by rw [htk]; rfl
      rw [← htk] at d3
      rw [e5]
      refine ⟨by show 0 ≤ drawV bs z ((n : Int) + 1) ∧ drawV bs z ((n : Int) + 1) ≤ (n : Int); omega, ?_⟩
      rcases Bool.eq_false_or_eq_true (drawV bs (z + 1) 2 == 1) with hw | hw
      · rw [hw, cond_true] at htk
        subst htk
        exact .inr ⟨by simpa using hw, d3, rfl⟩
      · rw [hw, cond_false] at htk
        subst htk
        have : drawV bs (z + 1) 2 ≠ 1 := by simpa using hw
        exact .inl ⟨by show drawV bs (z + 1) 2 = 0; omega, d3, rfl⟩
theorem checks_ok {bs lights refs samples : List Int} {n : Nat} {z₀ : Int} (hb : BsOk bs) (hz : 0 ≤ z₀) : ∀ k, COk lights refs samples n z₀ k (itn (stepC bs lights refs samples (n : Int)) k (z₀, []))
  | 0 => ⟨⟨by show z₀ ≤ z₀; omega, by show z₀ ≤ z₀ + 3 * ((0 : Nat) : Int); omega⟩, by show 0 ≤ 40; omega, fun c hc => by cases hc⟩
  | k + 1 => checks_step hb hz (checks_ok hb hz k)
end Go.Fade
