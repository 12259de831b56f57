/-
  Chapter 8: the conditions, proved; second part.
-/
import Derived.Test.YtlkegffejcndbaaHueP1
set_option linter.all false


set_option maxRecDepth 100000
namespace Go.Hue
open Go Go.Sx

theorem not_iff {a : Bool} : ((!a) = true ↔ a = false) ∧ ((!a) = false ↔ a = true) := by cases a <;> simp
theorem spanB_iff (s : Span) : spanB s = true ↔ 0 ≤ s.1 ∧ s.1 ≤ s.2 ∧ s.2 ≤ 10000 := by
  simp only [spanB, inB, Bool.and_eq_true, decide_eq_true_eq]; omega
theorem hueB_iff (h : Hue) : hueB h = true ↔ (0 ≤ h.1.1 ∧ h.1.1 ≤ h.1.2 ∧ h.1.2 ≤ 10000) ∧ (0 ≤ h.2.1 ∧ h.2.1 ≤ h.2.2 ∧ h.2.2 ≤ 10000) := by
  simp only [hueB, Bool.and_eq_true, spanB_iff]
structure Valid (m : Mill) (l : List Hue) : Prop where
  len : l.length ≤ 6
  run : 0 ≤ m.1.1 ∧ m.1.1 ≤ m.1.2 ∧ m.1.2 ≤ 10000
  wash : 0 ≤ m.2.1.1 ∧ m.2.1.1 ≤ m.2.1.2 ∧ m.2.1.2 ≤ 10000
  price : 0 ≤ m.2.2 ∧ m.2.2 ≤ 10000
  hue : ∀ h ∈ l, (0 ≤ h.1.1 ∧ h.1.1 ≤ h.1.2 ∧ h.1.2 ≤ 10000) ∧ (0 ≤ h.2.1 ∧ h.2.1 ≤ h.2.2 ∧ h.2.2 ≤ 10000)
theorem valid_iff {m : Mill} {l : List Hue} : validB m l = true ↔ Valid m l := by
  simp only [validB, Bool.and_eq_true, decide_eq_true_eq, spanB_iff, inB, List.all_eq_true, hueB_iff]
  exact ⟨fun ⟨a, b, c, d, e⟩ => ⟨a, b, c, d, e⟩, fun ⟨a, b, c, d, e⟩ => ⟨a, b, c, d, e⟩⟩
structure Plan (l : List Hue) (plan : List Turn) : Prop where
  len : plan.length ≤ 12
  turn : ∀ t ∈ plan, 0 ≤ t.1 ∧ t.1 < (l.length : Int) ∧ 0 ≤ t.2 ∧ t.2 ≤ 2
theorem plan_iff {l : List Hue} {plan : List Turn} : planB l plan = true ↔ Plan l plan := by
  simp only [planB, Bool.and_eq_true, decide_eq_true_eq, List.all_eq_true, turnB, inB]
  constructor
  · exact fun ⟨a, b⟩ => ⟨a, fun t ht => by have := b t ht; omega⟩
  · exact fun ⟨a, b⟩ => ⟨a, fun t ht => by have := b t ht; omega⟩
theorem any_not {α : Type} (p : α → Bool) (l : List α) : (!l.any fun a => !p a) = l.all p := by
  induction l with
  | nil => rfl
  | cons a l ih => simp only [List.any_cons, List.all_cons, Bool.not_or, Bool.not_not, ih]
theorem v30 (x : Mill × List Hue) (_ : k30.pre x) : V30 x := by
  refine ⟨fun _ => trivial, fun _ => trivial, fun _ => trivial, fun h => ⟨?_, fun _ _ => trivial⟩, ?_⟩
  · simp only [Bool.and_eq_true, decide_eq_true_eq] at h
    simp only [big]; omega
  · have e : (!slices_ContainsFunc_Lapi_Hue_api_Hue (x.2, ⟨hue_isValid_1u_p, hue_isValid_1⟩)) = x.2.all hueB := any_not hueB x.2
    rw [e]
    refine bool_ext ?_
    simp only [hue_isValid, validB, hue_isSpan, hue_within, Bool.and_eq_true, decide_eq_true_eq]
    constructor
    · exact fun ⟨⟨⟨⟨a, b⟩, c⟩, d⟩, e⟩ => ⟨by omega, b, c, d, e⟩
    · exact fun ⟨a, b, c, d, e⟩ => ⟨⟨⟨⟨by omega, b⟩, c⟩, d⟩, e⟩
theorem v52 (x : Turn × List Hue) (h : k52.pre x) : V52 x := by
  have h : x.2.length ≤ big := h
  refine ⟨?_, trivial, fun _ => trivial, ?_⟩
  · simp only [Z.in64]; simp only [big] at h; omega
  · simp only [hue_isPlan_1, hue_within, turnB, Bool.not_and]
theorem v31 (x : (List Hue) × List Turn) (h : k31.pre x) : V31 x := by
  have h : x.1.length ≤ big := h
  refine ⟨fun h1 => ⟨?_, fun _ _ => h⟩, ?_⟩
  · have h1 := of_decide_eq_true h1
    simp only [big]; omega
  · have e : (!slices_ContainsFunc_Lapi_Turn_api_Turn (x.2, ⟨(fun x2 => (hue_isPlan_1u_p (x2, x.1))), (fun x3 => (hue_isPlan_1 (x3, x.1)))⟩)) = x.2.all (turnB x.1) := any_not (turnB x.1) x.2
    rw [e]
    refine bool_ext ?_
    simp only [hue_isPlan, planB, Bool.and_eq_true, decide_eq_true_eq]
    constructor
    · exact fun ⟨a, e⟩ => ⟨by omega, e⟩
    · exact fun ⟨a, e⟩ => ⟨by omega, e⟩
theorem all_drop {α : Type} (p : α → Bool) (l : List α) (d : α) (s : Int) (h0 : 0 ≤ s) (h : s < (l.length : Int)) : (l.drop s.toNat).all p = (p (l.getD s.toNat d) && (l.drop (s + 1).toNat).all p) := by
  rw [drop_getD' l d s h0 h, List.all_cons]
theorem v22 (x : Mill × List Hue) (h : k22.pre x) : V22 x := by
  obtain ⟨m, l⟩ := x
  have hb : l.length ≤ big := h
  simp only [big] at hb
  refine ⟨fun s => 0 ≤ s ∧ s ≤ (l.length : Int) ∧ l.all hueB = (l.drop s.toNat).all hueB, fun s => ((l.length : Int) - s).toNat, ⟨by omega, by omega, rfl⟩, ?_⟩
  rintro s ⟨h1, h2, h3⟩
  refine ⟨fun h => ?_, fun h => ?_⟩
  · have h : s < (l.length : Int) := of_decide_eq_true h
    have e := all_drop hueB l ((0, 0), 0, 0) s h1 h
    rw [e] at h3
    refine ⟨⟨h1, h⟩, trivial, fun _ => ⟨h1, h⟩, fun _ => trivial, fun hv => ?_, fun hv => ⟨?_, ⟨?_, ?_, ?_⟩, ?_⟩⟩
    · have hf : hueB (l.getD s.toNat ((0, 0), 0, 0)) = false := by
        rw [← Bool.not_and] at hv
        exact not_iff.1.1 hv
      show false = validB m l
      rw [validB, h3, hf]
      simp
    · simp only [Z.in64]; omega
    · omega
    · omega
    · have hf : hueB (l.getD s.toNat ((0, 0), 0, 0)) = true := by
        rw [← Bool.not_and] at hv
        exact not_iff.2.1 hv
      rw [h3, hf, Bool.true_and]
    · simp only; omega
  · have h : ¬ s < (l.length : Int) := of_decide_eq_false h
    have e : l.drop s.toNat = [] := List.drop_eq_nil_of_le (by omega)
    refine ⟨fun _ => trivial, fun _ => trivial, fun _ => trivial, ?_⟩
    refine bool_ext ?_
    simp only [ref08u_Valid, validB, h3, e, List.all_nil, ref08u_span, ref08u_in, Bool.and_eq_true, decide_eq_true_eq, Bool.and_true]
    constructor
    · exact fun ⟨⟨⟨a, b⟩, c⟩, d⟩ => ⟨by omega, b, c, d⟩
    · exact fun ⟨a, b, c, d⟩ => ⟨⟨⟨by omega, b⟩, c⟩, d⟩
theorem v23 (x : (List Hue) × List Turn) (h : k23.pre x) : V23 x := by
  obtain ⟨l, plan⟩ := x
  have hb : l.length ≤ big ∧ plan.length ≤ big := h
  simp only [big] at hb
  refine ⟨fun s => 0 ≤ s ∧ s ≤ (plan.length : Int) ∧ plan.all (turnB l) = (plan.drop s.toNat).all (turnB l), fun s => ((plan.length : Int) - s).toNat, ⟨by omega, by omega, rfl⟩, ?_⟩
  rintro s ⟨h1, h2, h3⟩
  refine ⟨fun h => ?_, fun h => ?_⟩
  · have h : s < (plan.length : Int) := of_decide_eq_true h
    have e := all_drop (turnB l) plan (0, 0) s h1 h
    rw [e] at h3
    refine ⟨⟨h1, h⟩, ?_, trivial, fun _ => ⟨h1, h⟩, fun _ => trivial, fun hv => ?_, fun hv => ⟨?_, ⟨?_, ?_, ?_⟩, ?_⟩⟩
    · simp only [Z.in64]; omega
    · have hf : turnB l (plan.getD s.toNat (0, 0)) = false := by
        rw [← Bool.not_and] at hv
        exact not_iff.1.1 hv
      show false = planB l plan
      rw [planB, h3, hf]
      simp
    · simp only [Z.in64]; omega
    · omega
    · omega
    · have hf : turnB l (plan.getD s.toNat (0, 0)) = true := by
        rw [← Bool.not_and] at hv
        exact not_iff.2.1 hv
      rw [h3, hf, Bool.true_and]
    · simp only; omega
  · have h : ¬ s < (plan.length : Int) := of_decide_eq_false h
    have e : plan.drop s.toNat = [] := List.drop_eq_nil_of_le (by omega)
    refine bool_ext ?_
    simp only [ref08u_Plan, planB, h3, e, List.all_nil, Bool.and_true, decide_eq_true_eq]
    omega

theorem same_loop (a b : List (Int × Int)) (r : Bool) (hr : r = decide (a = b)) (hb : a.length ≤ big) : ((((!((a.length : Int) == (b.length : Int))) = true) → ((false : Bool) = r)) ∧ (((!((a.length : Int) == (b.length : Int))) = false) → Z.LoopP (X := Int) (0) (fun s0 K0 => (((decide ((s0 : Int) < (a.length : Int)) = true) → (((0 : Int) ≤ s0 ∧ (s0 : Int) < (a.length : Int)) ∧ (((0 : Int) ≤ s0 ∧ (s0 : Int) < (b.length : Int)) ∧ ((((!(((a.getD (Int.toNat s0) (0, 0)).1 == (b.getD (Int.toNat s0) (0, 0)).1) && ((a.getD (Int.toNat s0) (0, 0)).2 == (b.getD (Int.toNat s0) (0, 0)).2))) = true) → ((false : Bool) = r)) ∧ (((!(((a.getD (Int.toNat s0) (0, 0)).1 == (b.getD (Int.toNat s0) (0, 0)).1) && ((a.getD (Int.toNat s0) (0, 0)).2 == (b.getD (Int.toNat s0) (0, 0)).2))) = false) → (Z.in64 (s0 + 1) ∧ (K0 (s0 + 1)))))))) ∧ ((decide ((s0 : Int) < (a.length : Int)) = false) → ((true : Bool) = r)))))) := by
  subst hr
  simp only [big] at hb
  refine ⟨fun h => ?_, fun h => ?_⟩
  · refine (decide_eq_false ?_).symm
    rintro rfl
    simp at h
  · have hl : a.length = b.length := by simp at h; omega
    refine ⟨fun s => 0 ≤ s ∧ s ≤ (a.length : Int) ∧ (a = b ↔ a.drop s.toNat = b.drop s.toNat), fun s => ((a.length : Int) - s).toNat, ⟨by omega, by omega, by simp⟩, ?_⟩
    rintro s ⟨h1, h2, h3⟩
    refine ⟨fun h => ?_, fun h => ?_⟩
    · have h : s < (a.length : Int) := of_decide_eq_true h
      have e := drop_getD' a (0, 0) s h1 h
      have e' := drop_getD' b (0, 0) s h1 (by omega)
      rw [e, e', List.cons.injEq] at h3
      refine ⟨⟨h1, h⟩, ⟨h1, by omega⟩, fun hv => ?_, fun hv => ⟨?_, ⟨?_, ?_, ?_⟩, ?_⟩⟩
      · refine (decide_eq_false ?_).symm
        intro hab
        have h4 := (h3.1 hab).1
        rw [h4] at hv
        simp at hv
      · simp only [Z.in64]; omega
      · omega
      · omega
      · rw [h3]
        simp only [Bool.not_eq_false', Bool.and_eq_true, beq_iff_eq] at hv
        have h4 : a.getD s.toNat (0, 0) = b.getD s.toNat (0, 0) := Prod.ext hv.1 hv.2
        simp only [h4, true_and]
      · simp only; omega
    · have h := of_decide_eq_false h
      refine (decide_eq_true ?_).symm
      rw [h3, List.drop_eq_nil_of_le (by omega), List.drop_eq_nil_of_le (by omega)]
theorem v18 (x : (List Span) × List Span) (h : k18.pre x) : V18 x := same_loop x.1 x.2 _ rfl h
theorem v21 (x : (List Turn) × List Turn) (h : k21.pre x) : V21 x := same_loop x.1 x.2 _ rfl h
theorem v33 (x : Int × List Int) (h : k33.pre x) : V33 x := by
  obtain ⟨a, l⟩ := x
  have hb : l.length ≤ big := h
  simp only [big] at hb
  refine ⟨fun s => 0 ≤ s.2 ∧ s.2 ≤ (l.length : Int) ∧ great l a = great (l.drop s.2.toNat) s.1, fun s => ((l.length : Int) - s.2).toNat, ⟨by omega, by omega, rfl⟩, ?_⟩
  rintro ⟨c, s⟩ ⟨h1, h2, h3⟩
  simp only at h1 h2 h3
  refine ⟨fun h => ?_, fun h => ?_⟩
  · have h : s < (l.length : Int) := of_decide_eq_true h
    refine ⟨⟨h1, h⟩, ?_, ⟨?_, ?_, ?_⟩, ?_⟩
    · simp only [Z.in64]; omega
    · show 0 ≤ s + 1; omega
    · show s + 1 ≤ _; omega
    · rw [h3, drop_getD' l 0 s h1 h]; rfl
    · show ((l.length : Int) - (s + 1)).toNat < ((l.length : Int) - s).toNat; omega
  · have h : ¬ s < (l.length : Int) := of_decide_eq_false h
    have e : l.drop s.toNat = [] := List.drop_eq_nil_of_le (by omega)
    show c = great l a
    rw [h3, e]; rfl
theorem v39 (x : Int × List Hue) (h : k39.pre x) : V39 x := by
  have hb : x.2.length ≤ big := h
  simp only [big] at hb
  refine ⟨?_, trivial, rfl⟩
  simp only [Z.in64]; omega
theorem inB_iff {n a b : Int} : inB n a b = true ↔ a ≤ n ∧ n ≤ b := by simp [inB]
theorem tdiv_pos {a b : Int} (ha : 0 ≤ a) : Int.tdiv a b = a / b := Int.tdiv_eq_ediv_of_nonneg ha
theorem div_bd {a b : Int} (ha : 0 ≤ a) (hb : 0 < b) : 0 ≤ a / b ∧ a / b ≤ a := ⟨Int.ediv_nonneg ha (by omega), Int.ediv_le_self b ha⟩
theorem over_bd {m : Mill} {l : List Hue} (hv : Valid m l) {a b : Int} (ha : 0 ≤ a ∧ a < (l.length : Int)) (hb : 0 ≤ b ∧ b < (l.length : Int)) : -10000 ≤ overV l a b ∧ overV l a b ≤ 10000 := by
  have h1 := hv.hue _ (getD_mem' l ((0, 0), 0, 0) a ha.1 ha.2)
  have h2 := hv.hue _ (getD_mem' l ((0, 0), 0, 0) b hb.1 hb.2)
  unfold overV
  omega
theorem v16 (x : Mill × (List Hue) × Int × Int) (_ : k16.pre x) : V16 x := by
  obtain ⟨m, l, a, b⟩ := x
  refine ⟨trivial, fun h => ?_, fun h => ?_⟩
  · have h := not_iff.1.1 h
    show ((0 : Int), (1 : Int)) = washV m l a b
    rw [washV, show validB m l = false from h]; rfl
  · have hv : validB m l = true := not_iff.2.1 h
    have H := valid_iff.1 hv
    have hl : l.length ≤ big := Nat.le_trans H.len (by decide)
    refine ⟨hl, fun _ => hl, fun h => ?_, fun h => ?_⟩
    · show ((0 : Int), (2 : Int)) = washV m l a b
      rw [washV, hv, show (!inB a 0 ((l.length : Int) - 1) || !inB b 0 ((l.length : Int) - 1)) = true from h]; rfl
    · have h' : (!inB a 0 ((l.length : Int) - 1) || !inB b 0 ((l.length : Int) - 1)) = false := h
      have hw : washV m l a b = cond (decide (overV l a b ≤ 0)) (0, 0) (cond (m.2.1.1 == 0) (0, 4) (Int.tdiv (overV l a b + m.2.1.1 - 1) m.2.1.1, 0)) := by
        rw [washV, hv, h']; rfl
      rw [← Bool.not_and] at h'
      have h' := not_iff.2.1 h'
      simp only [Bool.and_eq_true, inB_iff] at h'
      have ha : 0 ≤ a ∧ a < (l.length : Int) := by omega
      have hb : 0 ≤ b ∧ b < (l.length : Int) := by omega
      have ho := over_bd H ha hb
      have hm := H.wash
      refine ⟨ha, hb, ?_, fun h => ?_, fun h => ⟨fun h2 => ?_, fun h2 => ?_⟩⟩
      · show Z.in64 (overV l a b)
        simp only [Z.in64]; omega
      · show ((0 : Int), (0 : Int)) = washV m l a b
        rw [hw, show decide (overV l a b ≤ 0) = true from h]; rfl
      · show ((0 : Int), (4 : Int)) = washV m l a b
        rw [hw, show decide (overV l a b ≤ 0) = false from h, show (m.2.1.1 == 0) = true from h2]; rfl
      · have h1 : decide (overV l a b ≤ 0) = false := h
        have hn : ¬ overV l a b ≤ 0 := of_decide_eq_false h1
        have h0 : m.2.1.1 ≠ 0 := by
          have : (m.2.1.1 == 0) = false := h2
          simpa using this
        have hd := div_bd (a := overV l a b + m.2.1.1 - 1) (b := m.2.1.1) (by omega) (by omega)
        refine ⟨?_, ?_, ⟨h0, ?_⟩, ?_⟩
        · show Z.in64 (overV l a b + m.2.1.1)
          simp only [Z.in64]; omega
        · show Z.in64 (overV l a b + m.2.1.1 - 1)
          simp only [Z.in64]; omega
        · show Z.in64 (Int.tdiv (overV l a b + m.2.1.1 - 1) m.2.1.1)
          rw [tdiv_pos (by omega)]
          simp only [Z.in64]; omega
        · show (Int.tdiv (overV l a b + m.2.1.1 - 1) m.2.1.1, (0 : Int)) = washV m l a b
          rw [hw, h1, show (m.2.1.1 == 0) = false from h2]; rfl
end Go.Hue
