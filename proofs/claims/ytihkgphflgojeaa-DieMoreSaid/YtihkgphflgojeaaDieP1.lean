/-
  Chapter 4: the conditions, proved; first part: the small functions.
-/
import Derived.Test.YtihkgphflgojeaaDieAuto
import Derived.Test.YtihkgphflgojeaaChecked
set_option linter.all false


set_option maxRecDepth 100000
namespace Go.Die
open Go Go.Sx

theorem mixed : Go.Proofs.Try.prog.follows .mixedOrders = true := by kernel_rfl
theorem tabs_ok : TabsOk Go.Proofs.Try.prog T := by
  refine ⟨by kernel_rfl, fun p hp => ?_⟩
  simp only [T, List.mem_singleton] at hp
  subst hp
  exact ⟨by kernel_rfl, deep_keyed (by kernel_rfl) (of_decide_eq_true (by kernel_rfl)) (by kernel_rfl) (by kernel_rfl), by kernel_rfl⟩

/-! ### What is valid -/
theorem span_iff {s : Span} {a b : Int} : spanB s a b = true ↔ a ≤ s.1 ∧ s.1 ≤ s.2 ∧ s.2 ≤ b := by simp [spanB]
theorem die_iff {d : Die} : dieB d = true ↔ (1 ≤ d.1 ∧ d.1 ≤ 20000) ∧ 0 ≤ d.2.1 ∧ d.2.1 ≤ d.2.2 ∧ d.2.2 ≤ 200 := by simp only [dieB, Bool.and_eq_true, inB_iff, span_iff]
theorem draw_iff {d : Draw} : drawB d = true ↔ (1 ≤ d.1 ∧ d.1 ≤ 1000) ∧ 0 ≤ d.2.1 ∧ d.2.1 ≤ d.2.2 ∧ d.2.2 ≤ 20000 := by simp only [drawB, Bool.and_eq_true, inB_iff, span_iff]
structure OkP (p : Press) : Prop where
  len : 1 ≤ (p.1.length : Int) ∧ (p.1.length : Int) ≤ 4
  shrink : 0 ≤ p.2.1.1 ∧ p.2.1.1 ≤ p.2.1.2 ∧ p.2.1.2 ≤ 300
  change : 0 ≤ p.2.2 ∧ p.2.2 ≤ 10000
  die : ∀ d ∈ p.1, (1 ≤ d.1 ∧ d.1 ≤ 20000) ∧ 0 ≤ d.2.1 ∧ d.2.1 ≤ d.2.2 ∧ d.2.2 ≤ 200
theorem press_iff {p : Press} : pressB p = true ↔ OkP p := by
  simp only [pressB, Bool.and_eq_true, span_iff, inB_iff, List.all_eq_true, die_iff]
  exact ⟨fun ⟨h1, h2, h3, h4⟩ => ⟨h1, h2, h3, h4⟩, fun h => ⟨h.1, h.2, h.3, h.4⟩⟩
structure OkD (l : List Draw) : Prop where
  len : l.length ≤ 8
  draw : ∀ d ∈ l, (1 ≤ d.1 ∧ d.1 ≤ 1000) ∧ 0 ≤ d.2.1 ∧ d.2.1 ≤ d.2.2 ∧ d.2.2 ≤ 20000
theorem draws_iff {l : List Draw} : drawsB l = true ↔ OkD l := by
  simp only [drawsB, Bool.and_eq_true, decide_eq_true_eq, List.all_eq_true, draw_iff]
  exact ⟨fun ⟨h1, h2⟩ => ⟨h1, h2⟩, fun h => ⟨h.1, h.2⟩⟩
theorem mount_ok {p : Press} (H : OkP p) {k : Nat} (hk : k < p.1.length) : mountOk (mountV p k) :=
  ⟨(H.die _ (getD_mem p.1 (0, 0, 0) k hk)).1, (H.die _ (getD_mem p.1 (0, 0, 0) k hk)).2, H.shrink⟩
/-- How wide a lead can be. -/
theorem thin_bd {m : Mounted} (H : mountOk m) {n : Int} (hn : usedOk n) : (0 ≤ m.1.2.1 * n ∧ m.1.2.1 * n ≤ 4000000) ∧ 0 ≤ thin m n ∧ thin m n ≤ 4020000000 := by
  obtain ⟨h1, h2, h3⟩ := H
  have q := mul_bd (a := m.1.2.1) (A := 200) ⟨by omega, by omega⟩ (b := n) (B := 20000) hn
  have q2 := mul_bd (a := m.1.1 + m.1.2.1 * n) (A := 4020000) ⟨by omega, by omega⟩ (b := 1000 - m.2.2) (B := 1000) ⟨by omega, by omega⟩
  unfold thin
  omega
theorem thick_bd {m : Mounted} (H : mountOk m) {n : Int} (hn : usedOk n) : (0 ≤ m.1.2.2 * n ∧ m.1.2.2 * n ≤ 4000000) ∧ 0 ≤ thick m n ∧ thick m n ≤ 4020000000 := by
  obtain ⟨h1, h2, h3⟩ := H
  have q := mul_bd (a := m.1.2.2) (A := 200) ⟨by omega, by omega⟩ (b := n) (B := 20000) hn
  have q2 := mul_bd (a := m.1.1 + m.1.2.2 * n) (A := 4020000) ⟨by omega, by omega⟩ (b := 1000 - m.2.1) (B := 1000) ⟨by omega, by omega⟩
  unfold thick
  omega

/-! ### The conditions -/
theorem v30 (x : Int × Int × Int) (_ : k30.pre x) : V30 x := rfl
theorem v33 (x : Int × Int × Int) (_ : k33.pre x) : V33 x := rfl
theorem v34 (x : Span × Int × Int) (_ : k34.pre x) : V34 x := by
  show (_ : Bool) = _
  simp only [die_isSpan, spanB, Bool.and_assoc]
theorem v38 (x : Span × Int × Int) (_ : k38.pre x) : V38 x := by
  show (_ : Bool) = _
  simp only [ref04u_span, spanB, Bool.and_assoc]
theorem v46 (x : Die) (_ : k46.pre x) : V46 x := by
  refine ⟨trivial, fun _ => trivial, ?_⟩
  simp only [die_isPress_1, die_within, die_isSpan, dieB, Bool.not_and]
theorem v53 (x : (List Die) × Fun Die Bool) (h : k53.pre x) : V53 x := ixF_loop x.1 (0, 0, 0) x.2 h.1 h.2
theorem v47 (x : (List Die) × Fun Die Bool) (h : k47.pre x) : V47 x := ⟨h, any_ix _ _⟩
theorem v29 (x : Press) (_ : k29.pre x) : V29 x := by
  refine ⟨trivial, fun _ => trivial, fun _ => trivial, fun h => ⟨?_, fun _ _ => trivial⟩, ?_⟩
  · have h : ((inB (x.1.length : Int) 1 4 && inB x.2.2 0 10000) && spanB x.2.1 0 300) = true := h
    simp only [Bool.and_eq_true, inB_iff] at h
    show x.1.length ≤ big
    simp only [big]; omega
  · show (((inB (x.1.length : Int) 1 4 && inB x.2.2 0 10000) && spanB x.2.1 0 300) && !(x.1.any fun a => !dieB a)) = pressB x
    rw [any_not, pressB]
    cases inB (x.1.length : Int) 1 4 <;> cases inB x.2.2 0 10000 <;> cases spanB x.2.1 0 300 <;> rfl
theorem v51 (x : Draw) (_ : k51.pre x) : V51 x := by
  refine ⟨trivial, fun _ => trivial, ?_⟩
  simp only [die_areDraws_1, die_within, die_isSpan, drawB, Bool.not_and]
theorem v56 (x : (List Draw) × Fun Draw Bool) (h : k56.pre x) : V56 x := ixF_loop x.1 (0, 0, 0) x.2 h.1 h.2
theorem v52 (x : (List Draw) × Fun Draw Bool) (h : k52.pre x) : V52 x := ⟨h, any_ix _ _⟩
theorem v39 (x : List Draw) (_ : k39.pre x) : V39 x := by
  refine ⟨fun h => ⟨?_, fun _ _ => trivial⟩, ?_⟩
  · have h : (x.length : Int) ≤ 8 := of_decide_eq_true h
    simp only [big]; omega
  · show (decide ((x.length : Int) ≤ 8) && !(x.any fun a => !drawB a)) = (decide (x.length ≤ 8) && x.all drawB)
    rw [any_not]
    congr 1
    simp only [decide_eq_decide]; omega
theorem v48 (x : Int × Mounted) (hp : k48.pre x) : V48 x := by
  obtain ⟨n, m⟩ := x
  obtain ⟨h1, h2⟩ : mountOk m ∧ usedOk n := hp
  have q := thin_bd h1 h2
  obtain ⟨a1, a2, a3⟩ := h1
  refine ⟨?_, ?_, ?_, ?_, rfl⟩
  · simp only [Z.in64]; omega
  · simp only [Z.in64]; omega
  · simp only [Z.in64]; omega
  · show Z.in64 (thin m n); simp only [Z.in64]; omega
theorem v49 (x : Int × Mounted) (hp : k49.pre x) : V49 x := by
  obtain ⟨n, m⟩ := x
  obtain ⟨h1, h2⟩ : mountOk m ∧ usedOk n := hp
  have q := thick_bd h1 h2
  obtain ⟨a1, a2, a3⟩ := h1
  refine ⟨?_, ?_, ?_, ?_, rfl⟩
  · simp only [Z.in64]; omega
  · simp only [Z.in64]; omega
  · simp only [Z.in64]; omega
  · show Z.in64 (thick m n); simp only [Z.in64]; omega
theorem v32 (x : Mounted) (_ : k32.pre x) : V32 x := rfl
theorem v36 (x : Mounted × Int × Int × Span) (hp : k36.pre x) : V36 x := by
  obtain ⟨m, a, b, want⟩ := x
  obtain ⟨h1, h2, h3, h4⟩ : mountOk m ∧ usedOk a ∧ usedOk b ∧ spanB want 0 20000 = true := hp
  rw [span_iff] at h4
  refine ⟨trivial, ⟨by omega, by omega⟩, ⟨h1, h2⟩, by simp only [Z.in64]; omega, fun _ => ⟨by omega, by omega⟩, fun _ => ⟨h1, h3⟩, fun _ => by simp only [Z.in64]; omega, rfl⟩
theorem v31 (x : Press × Int) (hp : k31.pre x) : V31 x := ⟨hp, rfl⟩
theorem v57 (x : Int) (_ : k57.pre x) : V57 x := by
  show (!(x == x)) = false
  simp
theorem v55 (x : Int × Int) (_ : k55.pre x) : V55 x := by
  obtain ⟨a, b⟩ := x
  have e : cmp_Compare_int (a, b) = cmpV a b := rfl
  refine ⟨trivial, trivial, fun h => (by cases h), fun _ => ⟨fun h => (by cases h), fun _ => ⟨fun h => ?_, fun h => ⟨fun h2 => ?_, fun h2 => ?_⟩⟩⟩⟩
  · rw [e, cmpV, show decide (a < b) = true from h]; rfl
  · rw [e, cmpV, show decide (a < b) = false from h, show decide (b < a) = true from h2]; rfl
  · rw [e, cmpV, show decide (a < b) = false from h, show decide (b < a) = false from h2]; rfl
theorem v50 (x : Int × Int) (_ : k50.pre x) : V50 x := rfl
theorem v35 (x : Int × Mounted × Span) (hp : k35.pre x) : V35 x := ⟨⟨hp.1, hp.2.1, hp.2.1, hp.2.2⟩, rfl⟩
theorem v20 (x : Press) (hp : k20.pre x) : V20 x := by
  have hb : x.1.length ≤ big := hp
  simp only [big] at hb
  refine ⟨fun s => 0 ≤ s ∧ s ≤ (x.1.length : Int) ∧ x.1.all dieB = (x.1.drop s.toNat).all dieB, fun s => ((x.1.length : Int) - s).toNat, ⟨by omega, by omega, rfl⟩, ?_⟩
  rintro s ⟨h1, h2, h3⟩
  have e : ref04u_Press x = (inB (x.1.length : Int) 1 4 && (spanB x.2.1 0 300 && (inB x.2.2 0 10000 && x.1.all dieB))) := rfl
  rw [e]
  refine ⟨fun h => ?_, fun h => ?_⟩
  · have h : s < (x.1.length : Int) := of_decide_eq_true h
    rw [all_drop dieB x.1 (0, 0, 0) s h1 h] at h3
    obtain ⟨y, hy⟩ : ∃ y, y = x.1.getD s.toNat (0, 0, 0) := ⟨_, rfl⟩
    rw [← hy] at h3
    have ev : ((!(ref04u_in (y.1, 1, 20000))) || (!(ref04u_span (y.2, 0, 200)))) = !dieB y := by
      simp only [ref04u_in, ref04u_span, dieB, Bool.not_and]
    rw [← hy, ev]
    refine ⟨⟨h1, h⟩, trivial, fun _ => ⟨h1, h⟩, fun _ => trivial, fun hv => ?_, fun hv => ⟨by simp only [Z.in64]; omega, ⟨by omega, by omega, ?_⟩, by simp only; omega⟩⟩
    · rw [h3, not_iff.1.1 hv, Bool.false_and, Bool.and_false, Bool.and_false, Bool.and_false]
    · rw [h3, not_iff.2.1 hv, Bool.true_and]
  · have h : ¬ s < (x.1.length : Int) := of_decide_eq_false h
    rw [List.drop_eq_nil_of_le (by omega), List.all_nil] at h3
    rw [h3, Bool.and_true]
    refine ⟨trivial, fun _ => trivial, fun _ => trivial, ?_⟩
    simp only [ref04u_in, ref04u_span, Bool.and_assoc]
theorem v21 (x : List Draw) (hp : k21.pre x) : V21 x := by
  have hb : x.length ≤ big := hp
  simp only [big] at hb
  refine ⟨fun s => 0 ≤ s ∧ s ≤ (x.length : Int) ∧ x.all drawB = (x.drop s.toNat).all drawB, fun s => ((x.length : Int) - s).toNat, ⟨by omega, by omega, rfl⟩, ?_⟩
  rintro s ⟨h1, h2, h3⟩
  have e : ref04u_Draws x = (decide (x.length ≤ 8) && x.all drawB) := rfl
  rw [e]
  refine ⟨fun h => ?_, fun h => ?_⟩
  · have h : s < (x.length : Int) := of_decide_eq_true h
    rw [all_drop drawB x (0, 0, 0) s h1 h] at h3
    obtain ⟨y, hy⟩ : ∃ y, y = x.getD s.toNat (0, 0, 0) := ⟨_, rfl⟩
    rw [← hy] at h3
    have ev : ((!(ref04u_in (y.1, 1, 1000))) || (!(ref04u_span (y.2, 0, 20000)))) = !drawB y := by
      simp only [ref04u_in, ref04u_span, drawB, Bool.not_and]
    rw [← hy, ev]
    refine ⟨⟨h1, h⟩, trivial, fun _ => ⟨h1, h⟩, fun _ => trivial, fun hv => ?_, fun hv => ⟨by simp only [Z.in64]; omega, ⟨by omega, by omega, ?_⟩, by simp only; omega⟩⟩
    · rw [h3, not_iff.1.1 hv, Bool.false_and, Bool.and_false]
    · rw [h3, not_iff.2.1 hv, Bool.true_and]
  · have h : ¬ s < (x.length : Int) := of_decide_eq_false h
    rw [List.drop_eq_nil_of_le (by omega), List.all_nil] at h3
    rw [h3, Bool.and_true]
    exact decide_eq_decide.2 (by omega)
theorem v26 (x : Press × Int × Int) (hp : k26.pre x) : V26 x := by
  obtain ⟨p, k, n⟩ := x
  obtain ⟨h1, h2, h3⟩ : pressB p = true ∧ (0 ≤ k ∧ k < (p.1.length : Int)) ∧ usedOk n := hp
  have H := mount_ok (press_iff.1 h1) (k := k.toNat) (by omega)
  have q := thin_bd H h3
  have e : thin (mountV p k.toNat) n = ((p.1.getD k.toNat (0, 0, 0)).1 + (p.1.getD k.toNat (0, 0, 0)).2.1 * n) * (1000 - p.2.1.2) := rfl
  have e2 : (mountV p k.toNat).1.2.1 = (p.1.getD k.toNat (0, 0, 0)).2.1 := rfl
  rw [e, e2] at q
  obtain ⟨a1, a2, a3⟩ := H
  have a1 : 1 ≤ (p.1.getD k.toNat (0, 0, 0)).1 ∧ (p.1.getD k.toNat (0, 0, 0)).1 ≤ 20000 := a1
  have a3 : 0 ≤ p.2.1.1 ∧ p.2.1.1 ≤ p.2.1.2 ∧ p.2.1.2 ≤ 300 := a3
  refine ⟨h2, ?_, ?_, ?_, ?_, rfl⟩ <;> simp only [Z.in64] <;> omega
theorem v27 (x : Press × Int × Int) (hp : k27.pre x) : V27 x := by
  obtain ⟨p, k, n⟩ := x
  obtain ⟨h1, h2, h3⟩ : pressB p = true ∧ (0 ≤ k ∧ k < (p.1.length : Int)) ∧ usedOk n := hp
  have H := mount_ok (press_iff.1 h1) (k := k.toNat) (by omega)
  have q := thick_bd H h3
  have e : thick (mountV p k.toNat) n = ((p.1.getD k.toNat (0, 0, 0)).1 + (p.1.getD k.toNat (0, 0, 0)).2.2 * n) * (1000 - p.2.1.1) := rfl
  have e2 : (mountV p k.toNat).1.2.2 = (p.1.getD k.toNat (0, 0, 0)).2.2 := rfl
  rw [e, e2] at q
  obtain ⟨a1, a2, a3⟩ := H
  have a1 : 1 ≤ (p.1.getD k.toNat (0, 0, 0)).1 ∧ (p.1.getD k.toNat (0, 0, 0)).1 ≤ 20000 := a1
  have a3 : 0 ≤ p.2.1.1 ∧ p.2.1.1 ≤ p.2.1.2 ∧ p.2.1.2 ≤ 300 := a3
  refine ⟨h2, ?_, ?_, ?_, ?_, rfl⟩ <;> simp only [Z.in64] <;> omega
theorem v9 (x : Press × (List Draw) × Int) (_ : k9.pre x) : V9 x := rfl
theorem v24 (x : Span) (_ : k24.pre x) : V24 x := rfl
theorem v43 (x : Rest) (_ : k43.pre x) : V43 x := rfl
end Go.Die
