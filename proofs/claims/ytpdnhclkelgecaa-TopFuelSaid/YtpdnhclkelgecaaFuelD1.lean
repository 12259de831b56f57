/-
  Chapter 13: the conditions, proved; first part: the small functions.
-/
import Derived.Test.YtpdnhclkelgecaaFuelAuto
import Derived.Test.YtpdnhclkelgecaaChecked
set_option linter.all false


set_option maxRecDepth 100000
namespace Go.Fuel
open Go Go.Sx

theorem mixed : Go.Proofs.Try.prog.follows .mixedOrders = true := by kernel_rfl
theorem tabs_ok : TabsOk Go.Proofs.Try.prog T := by
  refine ⟨by kernel_rfl, fun p hp => ?_⟩
  simp only [T, List.mem_singleton] at hp
  subst hp
  exact ⟨by kernel_rfl, deep_keyed (by kernel_rfl) (of_decide_eq_true (by kernel_rfl)) (by kernel_rfl) (by kernel_rfl), by kernel_rfl⟩

/-! ### What is valid -/
theorem span_iff {s : Span} {a b : Int} : spanB s a b = true ↔ a ≤ s.1 ∧ s.1 ≤ s.2 ∧ s.2 ≤ b := by simp [spanB]
structure OkB (b : Burn) : Prop where
  dust : 0 ≤ b.1.1 ∧ b.1.1 ≤ b.1.2 ∧ b.1.2 ≤ 1000
  coal : 1 ≤ b.2.1.1 ∧ b.2.1.1 ≤ b.2.1.2 ∧ b.2.1.2 ≤ 1000
  room : 0 ≤ b.2.2.1 ∧ b.2.2.1 ≤ 60
  price : 0 ≤ b.2.2.2.1 ∧ b.2.2.2.1 ≤ 10000
  cart : 0 ≤ b.2.2.2.2 ∧ b.2.2.2.2 ≤ 10000
theorem burn_iff {b : Burn} : burnB b = true ↔ OkB b := by
  simp only [burnB, Bool.and_eq_true, span_iff, inB_iff]
  exact ⟨fun ⟨h1, h2, h3, h4, h5⟩ => ⟨h1, h2, h3, h4, h5⟩, fun h => ⟨h.1, h.2, h.3, h.4, h.5⟩⟩
theorem may_iff {f : Feed} : mayB f = true ↔ (0 ≤ f.1 ∧ f.1 ≤ 60) ∧ 0 ≤ f.2 ∧ f.2 ≤ 200 := by simp only [mayB, Bool.and_eq_true, inB_iff]
theorem load_iff {x : Load} : loadB x = true ↔ (0 ≤ x.1 ∧ x.1 ≤ 40) ∧ 0 ≤ x.2.1 ∧ x.2.1 ≤ x.2.2 ∧ x.2.2 ≤ 100000 := by simp only [loadB, Bool.and_eq_true, inB_iff, span_iff]
structure OkL (l : List Load) : Prop where
  len : l.length ≤ 8
  load : ∀ x ∈ l, (0 ≤ x.1 ∧ x.1 ≤ 40) ∧ 0 ≤ x.2.1 ∧ x.2.1 ≤ x.2.2 ∧ x.2.2 ≤ 100000
theorem loads_iff {l : List Load} : loadsB l = true ↔ OkL l := by
  simp only [loadsB, Bool.and_eq_true, decide_eq_true_eq, List.all_eq_true, load_iff]
  exact ⟨fun ⟨h1, h2⟩ => ⟨h1, h2⟩, fun h => ⟨h.1, h.2⟩⟩

/-! ### The conditions -/
theorem v33 (x : Int × Int × Int) (_ : k33.pre x) : V33 x := rfl
theorem v17 (x : Int × Int × Int) (_ : k17.pre x) : V17 x := rfl
theorem v34 (x : Span × Int × Int) (_ : k34.pre x) : V34 x := by
  show (_ : Bool) = _
  simp only [dust_isSpan, spanB, Bool.and_assoc]
theorem v16 (x : Span × Int × Int) (_ : k16.pre x) : V16 x := by
  show (_ : Bool) = _
  simp only [ref13u_span, spanB, Bool.and_assoc]
theorem v19 (x : Burn) (_ : k19.pre x) : V19 x := by
  refine ⟨trivial, fun _ => trivial, fun _ => trivial, fun _ => trivial, fun _ => trivial, ?_⟩
  simp only [dust_isBurn, dust_within, dust_isSpan, burnB]
  cases inB x.2.2.2.1 0 10000 <;> cases inB x.2.2.2.2 0 10000 <;> cases spanB x.1 0 1000 <;> cases spanB x.2.1 1 1000 <;> cases inB x.2.2.1 0 60 <;> rfl
theorem v7 (x : Burn) (_ : k7.pre x) : V7 x := by
  refine ⟨trivial, fun _ => trivial, fun _ => trivial, fun _ => trivial, fun _ => trivial, ?_⟩
  simp only [ref13u_Burn, ref13u_in, ref13u_span, burnB]
  cases inB x.2.2.2.1 0 10000 <;> cases inB x.2.2.2.2 0 10000 <;> cases spanB x.1 0 1000 <;> cases spanB x.2.1 1 1000 <;> cases inB x.2.2.1 0 60 <;> rfl
theorem v31 (x : Feed) (_ : k31.pre x) : V31 x := ⟨trivial, fun _ => trivial, rfl⟩
theorem v11 (x : Feed) (_ : k11.pre x) : V11 x := ⟨trivial, fun _ => trivial, rfl⟩
theorem v35 (x : Load) (_ : k35.pre x) : V35 x := by
  refine ⟨trivial, fun _ => trivial, ?_⟩
  simp only [dust_areLoads_1, dust_within, dust_isSpan, loadB, Bool.not_and]
theorem v47 (x : (List Load) × Fun Load Bool) (h : k47.pre x) : V47 x := ixF_loop x.1 (0, 0, 0) x.2 h.1 h.2
theorem v36 (x : (List Load) × Fun Load Bool) (h : k36.pre x) : V36 x := ⟨h, any_ix _ _⟩
theorem v20 (x : List Load) (_ : k20.pre x) : V20 x := by
  refine ⟨fun h => ⟨?_, fun _ _ => trivial⟩, ?_⟩
  · have h : (x.length : Int) ≤ 8 := of_decide_eq_true h
    simp only [big]; omega
  · show (decide ((x.length : Int) ≤ 8) && !(x.any fun a => !loadB a)) = (decide (x.length ≤ 8) && x.all loadB)
    rw [any_not]
    congr 1
    simp only [decide_eq_decide]; omega
theorem v46 (x : List (Int × Int × Int)) (hp : k46.pre x) : V46 x := by
  obtain ⟨h1, h2⟩ : x.length ≤ 2 ∧ ∀ h ∈ x, inB h.1 0 1000 = true ∧ inB h.2.1 0 1000 = true ∧ inB h.2.2 0 1000 = true := hp
  refine ⟨fun s => 0 ≤ s.1 ∧ s.1 ≤ (x.length : Int) ∧ dust_sum x = sumV (x.drop s.1.toNat) s.2 ∧ 0 ≤ s.2.1 ∧ s.2.1 ≤ 1000000 * s.1 ∧ 0 ≤ s.2.2 ∧ s.2.2 ≤ 1000000 * s.1, fun s => ((x.length : Int) - s.1).toNat, ⟨by simp, by simp, rfl, by simp⟩, ?_⟩
  rintro ⟨i, a, b⟩ ⟨g1, g2, g3, g4, g5, g6, g7⟩
  simp only at g1 g2 g3 g4 g5 g6 g7
  refine ⟨fun h => ?_, fun h => ?_⟩
  · have h : i < (x.length : Int) := of_decide_eq_true h
    have e := drop_getD' x (0, 0, 0) i g1 h
    have q := h2 _ (getD_mem' x (0, 0, 0) i g1 h)
    obtain ⟨y, hy⟩ : ∃ y, y = x.getD i.toNat (0, 0, 0) := ⟨_, rfl⟩
    simp only [inB_iff] at q
    rw [← hy] at e q
    have q1 := mul_bd q.1 q.2.1
    have q2 := mul_bd q.1 q.2.2
    show _ ∧ _
    rw [← hy]
    refine ⟨⟨g1, h⟩, ?_, ?_, ?_, ?_, ?_, ⟨?_, ?_, ?_, ?_, ?_, ?_, ?_⟩, ?_⟩
    · simp only [Z.in64]; omega
    · simp only [Z.in64]; omega
    · simp only [Z.in64]; omega
    · simp only [Z.in64]; omega
    · simp only [Z.in64]; omega
    · show 0 ≤ i + 1; omega
    · show i + 1 ≤ _; omega
    · rw [g3, e]; rfl
    · show 0 ≤ a + y.1 * y.2.1; omega
    · show a + y.1 * y.2.1 ≤ 1000000 * (i + 1); omega
    · show 0 ≤ b + y.1 * y.2.2; omega
    · show b + y.1 * y.2.2 ≤ 1000000 * (i + 1); omega
    · show ((x.length : Int) - (i + 1)).toNat < ((x.length : Int) - i).toNat; omega
  · have h : ¬ i < (x.length : Int) := of_decide_eq_false h
    have e : x.drop i.toNat = [] := List.drop_eq_nil_of_le (by omega)
    show (a, b) = _
    rw [g3, e]; rfl
theorem v32 (x : Burn × Feed) (hp : k32.pre x) : V32 x := by
  obtain ⟨b, f⟩ := x
  obtain ⟨h1, h2⟩ : burnB b = true ∧ mayB f = true := hp
  have B := burn_iff.1 h1
  have M := may_iff.1 h2
  have := B.dust
  have := B.coal
  refine ⟨⟨Nat.le_refl _, fun h hh => ?_⟩, ?_⟩
  · have hh : h ∈ [(f.1, b.1), (f.2, b.2.1)] := hh
    simp only [List.mem_cons, List.not_mem_nil, or_false] at hh
    simp only [inB_iff]
    rcases hh with rfl | rfl
    · simp only; omega
    · simp only; omega
  · show (0 + f.1 * b.1.1 + f.2 * b.2.1.1, 0 + f.1 * b.1.2 + f.2 * b.2.1.2) = gives b f
    rw [Int.zero_add, Int.zero_add]; rfl
theorem v49 (x : Int × Int) (hp : k49.pre x) : V49 x := by
  obtain ⟨n, d⟩ := x
  obtain ⟨h1, h2, h3⟩ : inB n (-1000000000) 1000000000 = true ∧ 0 < d ∧ d ≤ 1000000000 := hp
  rw [inB_iff] at h1
  have e : n.tdiv d = n / d + if 0 ≤ n ∨ d ∣ n then 0 else 1 := by
    rw [Int.tdiv_eq_ediv]
    have : d.sign = 1 := Int.sign_eq_one_of_pos h2
    rw [this]
  have em := Int.emod_nonneg n (show d ≠ 0 by omega)
  have em2 := Int.emod_lt_of_pos n h2
  have et := Int.mul_tdiv_add_tmod n d
  have ed := Int.mul_ediv_add_emod n d
  have hdb : -1000000000 ≤ n / d ∧ n / d ≤ 1000000000 := by
    constructor
    · rw [Int.le_ediv_iff_mul_le h2]
      have := Int.mul_le_mul_of_nonneg_left (show (1:Int) ≤ d by omega) (show (0:Int) ≤ 1000000000 by omega)
      omega
    · exact Int.ediv_le_of_le_mul h2 (by
        have := Int.mul_le_mul_of_nonneg_left (show (1:Int) ≤ d by omega) (show (0:Int) ≤ 1000000000 by omega)
        omega)
  have hb : Z.in64 (Int.tdiv n d) ∧ Z.in64 (Int.tdiv n d - 1) := by
    simp only [Z.in64]
    split at e <;> omega
  refine ⟨⟨by show d ≠ 0; omega, hb.1⟩, by show d ≠ 0; omega, fun h => ⟨hb.2, ?_⟩, fun h => ?_⟩
  · have h : Int.tmod n d < 0 := of_decide_eq_true h
    show Int.tdiv n d - 1 = n / d
    rw [e] at et ⊢
    split at et
    · rw [Int.add_zero] at et; omega
    · rename_i hh; rw [if_neg hh]; omega
  · have h : ¬ Int.tmod n d < 0 := of_decide_eq_false h
    show Int.tdiv n d = n / d
    rw [e] at et ⊢
    split at et
    · rename_i hh; rw [if_pos hh]; omega
    · rename_i hh
      exfalso
      rw [Int.mul_add] at et
      omega
theorem v48 (x : Int × Int) (hp : k48.pre x) : V48 x := by
  obtain ⟨n, d⟩ := x
  obtain ⟨h1, h2, h3⟩ : inB n (-1000000000) 1000000000 = true ∧ 0 < d ∧ d ≤ 1000000000 := hp
  rw [inB_iff] at h1
  have hdb : -1000000000 ≤ (-n) / d ∧ (-n) / d ≤ 1000000000 := by
    have := Int.mul_le_mul_of_nonneg_left (show (1:Int) ≤ d by omega) (show (0:Int) ≤ 1000000000 by omega)
    constructor
    · rw [Int.le_ediv_iff_mul_le h2]; omega
    · exact Int.ediv_le_of_le_mul h2 (by omega)
  refine ⟨?_, ⟨?_, h2, h3⟩, ?_, rfl⟩
  · show Z.in64 (-n)
    simp only [Z.in64]; omega
  · show inB (-n) _ _ = true
    rw [inB_iff]; omega
  · show Z.in64 (-((-n) / d))
    simp only [Z.in64]; omega
theorem v38 (x : Burn × Span × Int) (hp : k38.pre x) : V38 x := by
  obtain ⟨b, need, d⟩ := x
  obtain ⟨h1, h2, h3⟩ : burnB b = true ∧ spanB need 0 100000 = true ∧ inB d 0 60 = true := hp
  have B := burn_iff.1 h1
  have c1 := B.dust
  have c2 := B.coal
  rw [span_iff] at h2
  rw [inB_iff] at h3
  have q1 := mul_bd (a := d) (A := 60) h3 (b := b.1.1) (B := 1000) ⟨by omega, by omega⟩
  have q2 := mul_bd (a := d) (A := 60) h3 (b := b.1.2) (B := 1000) ⟨by omega, by omega⟩
  have e : dust_sum ((List.replicate 1 (0, 0, 0)).set 0 (d, b.1)) = (d * b.1.1, d * b.1.2) := by
    show (0 + d * b.1.1, 0 + d * b.1.2) = _
    rw [Int.zero_add, Int.zero_add]
  refine ⟨⟨by show 1 ≤ 2; decide, fun h hh => ?_⟩, ?_, ⟨?_, by show 0 < b.2.1.1; omega, by show b.2.1.1 ≤ _; omega⟩, ?_, ⟨?_, by show 0 < b.2.1.2; omega, by show b.2.1.2 ≤ _; omega⟩, ?_⟩
  · have hh : h ∈ [(d, b.1)] := hh
    simp only [List.mem_cons, List.not_mem_nil, or_false] at hh
    simp only [inB_iff]
    subst hh
    simp only; omega
  · show Z.in64 (need.1 - (dust_sum _).1)
    rw [e]; simp only [Z.in64]; omega
  · show inB (need.1 - (dust_sum _).1) _ _ = true
    rw [e, inB_iff]; simp only; omega
  · show Z.in64 (need.2 - (dust_sum _).2)
    rw [e]; simp only [Z.in64]; omega
  · show inB (need.2 - (dust_sum _).2) _ _ = true
    rw [e, inB_iff]; simp only; omega
  · show ((max 0 (upV (need.1 - (dust_sum _).1) b.2.1.1), min 200 (downV (need.2 - (dust_sum _).2) b.2.1.2)), decide (max 0 (upV (need.1 - (dust_sum _).1) b.2.1.1) ≤ min 200 (downV (need.2 - (dust_sum _).2) b.2.1.2))) = _
    rw [e]; rfl
theorem v18 (x : Burn × Feed) (_ : k18.pre x) : V18 x := by
  obtain ⟨b, f⟩ := x
  refine ⟨trivial, fun h => ?_, fun h => ⟨trivial, fun h2 => ?_, fun h2 => ⟨⟨not_iff.2.1 h, not_iff.2.1 h2⟩, ?_⟩⟩⟩
  · show _ = heatV b f
    rw [heatV, show (!burnB b) = true from h]; rfl
  · show _ = heatV b f
    rw [heatV, show (!burnB b) = false from h, show (!mayB f) = true from h2]; rfl
  · show _ = heatV b f
    rw [heatV, show (!burnB b) = false from h, show (!mayB f) = false from h2]; rfl
end Go.Fuel
