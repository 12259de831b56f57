/-
  Chapter 13: the conditions, proved; fourth part: the document's functions; the laws DustCoal and DustFeeds.
-/
import Derived.Test.YtmbaggjpbjpljaaDustP3
set_option linter.all false


set_option maxRecDepth 100000
namespace Go.Dust
open Go Go.Sx

theorem same_loop {α : Type} (d : α) (c : α → α → Bool) (hc : ∀ a b, c a b = true ↔ a = b) (a b : List α) (R : Bool) (hR : R = true ↔ a = b) (hb : a.length ≤ big) :
    (((!((a.length : Int) == (b.length : Int))) = true) → ((false : Bool) = R)) ∧ (((!((a.length : Int) == (b.length : Int))) = false) → Z.LoopP (X := Int) (0) (fun s0 K0 => (((decide ((s0 : Int) < (a.length : Int)) = true) → (((0 : Int) ≤ s0 ∧ (s0 : Int) < (a.length : Int)) ∧ (((0 : Int) ≤ s0 ∧ (s0 : Int) < (b.length : Int)) ∧ ((((!(c (a.getD (Int.toNat s0) d) (b.getD (Int.toNat s0) d))) = true) → ((false : Bool) = R)) ∧ (((!(c (a.getD (Int.toNat s0) d) (b.getD (Int.toNat s0) d))) = false) → (Z.in64 (s0 + 1) ∧ (K0 (s0 + 1)))))))) ∧ ((decide ((s0 : Int) < (a.length : Int)) = false) → ((true : Bool) = R))))) := by
  have hF : ¬ a = b → false = R := fun h => by cases hr : R with
    | false => rfl
    | true => exact absurd (hR.1 hr) h
  simp only [big] at hb
  refine ⟨fun h => hF ?_, fun h => ?_⟩
  · rintro rfl
    simp at h
  · have hl : a.length = b.length := by simp at h; omega
    refine ⟨fun s => 0 ≤ s ∧ s ≤ (a.length : Int) ∧ (a = b ↔ a.drop s.toNat = b.drop s.toNat), fun s => ((a.length : Int) - s).toNat, ⟨by omega, by omega, by simp⟩, ?_⟩
    rintro s ⟨h1, h2, h3⟩
    refine ⟨fun h => ?_, fun h => ?_⟩
    · have h : s < (a.length : Int) := of_decide_eq_true h
      have e := drop_getD' a d s h1 h
      have e' := drop_getD' b d s h1 (by omega)
      rw [e, e', List.cons.injEq] at h3
      refine ⟨⟨h1, h⟩, ⟨h1, by omega⟩, fun hv => hF ?_, fun hv => ⟨?_, ⟨?_, ?_, ?_⟩, ?_⟩⟩
      · intro hab
        have h4 := (h3.1 hab).1
        rw [h4, (hc _ _).2 rfl] at hv
        simp at hv
      · simp only [Z.in64]; omega
      · omega
      · omega
      · rw [h3]
        have h4 := (hc _ _).1 (not_iff.2.1 hv)
        simp only [h4, true_and]
      · simp only; omega
    · have h := of_decide_eq_false h
      refine (hR.2 ?_).symm
      rw [h3, List.drop_eq_nil_of_le (by omega), List.drop_eq_nil_of_le (by omega)]
theorem v16 (x : (List Int) × List Int) (h : k16.pre x) : V16 x := same_loop 0 (fun a b => a == b) (fun a b => beq_iff_eq) x.1 x.2 _ decide_eq_true_iff h
theorem v19 (x : (List Feed) × List Feed) (h : k19.pre x) : V19 x := same_loop (0, 0) (fun a b => (a.1 == b.1) && (a.2 == b.2)) (fun a b => by rw [Bool.and_eq_true, beq_iff_eq, beq_iff_eq, Prod.ext_iff]) x.1 x.2 _ decide_eq_true_iff h
theorem v25 (x : Span) (_ : k25.pre x) : V25 x := rfl
theorem v26 (x : Unit) (_ : k26.pre x) : V26 x := by
  refine ⟨trivial, trivial, trivial, trivial, ?_⟩
  rfl
theorem v9 (x : Unit) (_ : k9.pre x) : V9 x := by
  refine ⟨trivial, trivial, trivial, trivial, trivial, trivial, trivial, trivial, fun _ => trivial, fun _ => ?_, fun _ => ?_, ?_⟩
  · exact Nat.le_of_ble_eq_true (by kernel_rfl)
  · exact Nat.le_of_ble_eq_true (by kernel_rfl)
  · kernel_rfl
theorem v21 (x : List Load) (hp : k21.pre x) : V21 x := by
  have hb : x.length ≤ big := hp
  simp only [big] at hb
  refine ⟨fun s => 0 ≤ s ∧ s ≤ (x.length : Int) ∧ x.all loadB = (x.drop s.toNat).all loadB, fun s => ((x.length : Int) - s).toNat, ⟨by omega, by omega, rfl⟩, ?_⟩
  rintro s ⟨h1, h2, h3⟩
  have e : ref13u_Loads x = (decide (x.length ≤ 8) && x.all loadB) := rfl
  rw [e]
  refine ⟨fun h => ?_, fun h => ?_⟩
  · have h : s < (x.length : Int) := of_decide_eq_true h
    rw [all_drop loadB x (0, 0, 0) s h1 h] at h3
    obtain ⟨y, hy⟩ : ∃ y, y = x.getD s.toNat (0, 0, 0) := ⟨_, rfl⟩
    rw [← hy] at h3
    have ev : ((!(ref13u_in (y.1, 0, 40))) || (!(ref13u_span (y.2, 0, 100000)))) = !loadB y := by
      simp only [ref13u_in, ref13u_span, loadB, Bool.not_and]
    rw [← hy, ev]
    refine ⟨⟨h1, h⟩, trivial, fun _ => ⟨h1, h⟩, fun _ => trivial, fun hv => ?_, fun hv => ⟨by simp only [Z.in64]; omega, ⟨by omega, by omega, ?_⟩, by simp only; omega⟩⟩
    · rw [h3, not_iff.1.1 hv, Bool.false_and, Bool.and_false]
    · rw [h3, not_iff.2.1 hv, Bool.true_and]
  · have h : ¬ s < (x.length : Int) := of_decide_eq_false h
    rw [List.drop_eq_nil_of_le (by omega), List.all_nil] at h3
    rw [h3, Bool.and_true]
    exact decide_eq_decide.2 (by omega)
theorem gives_bd {b : Burn} {f : Feed} (B : OkB b) (M : mayB f = true) :
    (0 ≤ f.1 * b.1.1 ∧ f.1 * b.1.1 ≤ 60000) ∧ (0 ≤ f.2 * b.2.1.1 ∧ f.2 * b.2.1.1 ≤ 200000) ∧ (0 ≤ f.1 * b.1.2 ∧ f.1 * b.1.2 ≤ 60000) ∧ (0 ≤ f.2 * b.2.1.2 ∧ f.2 * b.2.1.2 ≤ 200000) := by
  have M := may_iff.1 M
  have h1 := B.dust
  have h2 := B.coal
  have q1 := mul_bd (a := f.1) (A := 60) M.1 (b := b.1.1) (B := 1000) ⟨by omega, by omega⟩
  have q2 := mul_bd (a := f.2) (A := 200) M.2 (b := b.2.1.1) (B := 1000) ⟨by omega, by omega⟩
  have q3 := mul_bd (a := f.1) (A := 60) M.1 (b := b.1.2) (B := 1000) ⟨by omega, by omega⟩
  have q4 := mul_bd (a := f.2) (A := 200) M.2 (b := b.2.1.2) (B := 1000) ⟨by omega, by omega⟩
  exact ⟨by omega, by omega, by omega, by omega⟩
theorem v30 (x : Burn × Feed) (hp : k30.pre x) : V30 x := by
  obtain ⟨b, f⟩ := x
  obtain ⟨h1, h2⟩ : burnB b = true ∧ mayB f = true := hp
  have q := gives_bd (burn_iff.1 h1) h2
  refine ⟨?_, ?_, ?_, ?_, ?_, ?_, rfl⟩ <;> simp only [Z.in64] <;> omega
theorem v36 (x : Burn × Feed × Span) (hp : k36.pre x) : V36 x := ⟨hp, rfl⟩
theorem v11 (x : Burn × Feed) (_ : k11.pre x) : V11 x := by
  obtain ⟨b, f⟩ := x
  have e : ref13u_Heat (b, f) = heatV b f := rfl
  refine ⟨trivial, fun h => ?_, fun h => ⟨trivial, fun h2 => ?_, fun h2 => ⟨⟨not_iff.2.1 h, not_iff.2.1 h2⟩, ?_⟩⟩⟩
  · rw [e, heatV, show (!burnB b) = true from h]; rfl
  · rw [e, heatV, show (!burnB b) = false from h, show (!mayB f) = true from h2]; rfl
  · rw [e, heatV, show (!burnB b) = false from h, show (!mayB f) = false from h2]; rfl
theorem up_le {m c n : Int} (hc : 0 < c) : upV m c ≤ n ↔ m ≤ n * c := by
  unfold upV
  have h : -n ≤ (-m) / c ↔ (-n) * c ≤ -m := Int.le_ediv_iff_mul_le hc
  rw [Int.neg_mul] at h
  omega
theorem le_down {m c n : Int} (hc : 0 < c) : n ≤ downV m c ↔ n * c ≤ m := Int.le_ediv_iff_mul_le hc
/-- Just the numbers of a span do. -/
theorem does_iff {b : Burn} (B : OkB b) (need : Span) (d n : Int) (hn : 0 ≤ n ∧ n ≤ 200) : doesB b (d, n) need = true ↔ (coalS b need d).1 ≤ n ∧ n ≤ (coalS b need d).2 := by
  have h1 := B.coal
  have e1 : (coalS b need d).1 = max 0 (upV (need.1 - d * b.1.1) b.2.1.1) := rfl
  have e2 : (coalS b need d).2 = min 200 (downV (need.2 - d * b.1.2) b.2.1.2) := rfl
  have q1 := up_le (m := need.1 - d * b.1.1) (c := b.2.1.1) (n := n) (by omega)
  have q2 := le_down (m := need.2 - d * b.1.2) (c := b.2.1.2) (n := n) (by omega)
  have e3 : doesB b (d, n) need = true ↔ need.1 ≤ d * b.1.1 + n * b.2.1.1 ∧ d * b.1.2 + n * b.2.1.2 ≤ need.2 := by
    show (decide _ && decide _) = true ↔ _
    rw [Bool.and_eq_true]
    exact and_congr decide_eq_true_iff decide_eq_true_iff
  rw [e3, e1, e2]
  omega
theorem v13 (x : Burn × Span × Int) (_ : k13.pre x) : V13 x := by
  obtain ⟨b, need, d⟩ := x
  have e : ref13u_Coal (b, need, d) = coalV b need d := rfl
  rw [V13, e]
  refine ⟨trivial, fun h => ?_, fun h => ⟨trivial, fun _ => trivial, fun h2 => ?_, fun h2 => ?_⟩⟩
  · rw [coalV, show (!burnB b) = true from h]; rfl
  · rw [coalV, show (!burnB b) = false from h, show (!spanB need 0 100000 || !inB d 0 60) = true from h2]; rfl
  have hb : burnB b = true := not_iff.2.1 h
  have B := burn_iff.1 hb
  have h2' : (!spanB need 0 100000 || !inB d 0 60) = false := h2
  simp only [Bool.or_eq_false_iff, Bool.not_eq_false'] at h2'
  have hd := inB_iff.1 h2'.2
  have eC : coalV b need d = cond (!coalB b need d) ((0, 0), 4) (coalS b need d, 0) := by
    rw [coalV, show (!burnB b) = false from h, show (!spanB need 0 100000 || !inB d 0 60) = false from h2]; rfl
  have hcB : coalB b need d = decide ((coalS b need d).1 ≤ (coalS b need d).2) := rfl
  have hL0 : 0 ≤ (coalS b need d).1 := by show (0 : Int) ≤ max 0 _; omega
  have hU0 : (coalS b need d).2 ≤ 200 := by show min 200 _ ≤ (200 : Int); omega
  have hdo := does_iff B need d
  obtain ⟨S, hS⟩ : ∃ S, S = coalS b need d := ⟨_, rfl⟩
  rw [← hS] at eC hcB hL0 hU0 hdo
  obtain ⟨L, U⟩ := S
  simp only at hcB hL0 hU0 hdo
  rw [eC]
  refine ⟨fun s => 0 ≤ s.2.1 ∧ s.2.1 ≤ 201 ∧ ((s.1 = true ∧ s.2.2 = (0, 0) ∧ (s.2.1 ≤ L ∨ U < L)) ∨ (s.1 = false ∧ L ≤ U ∧ s.2.2.1 = L ∧ L < s.2.1 ∧ s.2.2.2 = min U (s.2.1 - 1))), fun s => (201 - s.2.1).toNat, ⟨by simp, by simp, .inl ⟨rfl, rfl, .inl hL0⟩⟩, ?_⟩
  rintro ⟨none_, n, lo, hi⟩ ⟨g1, g2, g3⟩
  simp only at g1 g2 g3
  refine ⟨fun hn => ?_, fun hn => ?_⟩
  · have hn : n ≤ 200 := of_decide_eq_true hn
    have hdo := hdo n ⟨g1, hn⟩
    have ed : ref13u_Does (b, (d, n), need) = doesB b (d, n) need := rfl
    dsimp only
    rw [ed]
    refine ⟨⟨hb, may_iff.2 ⟨hd, by show 0 ≤ n ∧ n ≤ 200; omega⟩⟩, fun hv => ⟨fun hno => ⟨?_, rfl, ⟨?_, ?_, .inr ⟨rfl, ?_, ?_, ?_, ?_⟩⟩, ?_⟩, fun hno => ⟨?_, rfl, ⟨?_, ?_, .inr ⟨rfl, ?_, ?_, ?_, ?_⟩⟩, ?_⟩⟩, fun hv => ⟨?_, rfl, ⟨?_, ?_, ?_⟩, ?_⟩⟩
    · simp only [Z.in64]; omega
    · show 0 ≤ n + 1; omega
    · show n + 1 ≤ 201; omega
    · have := hdo.1 hv; omega
    · show n = L
      have := hdo.1 hv
      rcases g3 with ⟨_, _, h⟩ | ⟨h, _⟩
      · omega
      · rw [h] at hno; cases hno
    · show L < n + 1
      have := hdo.1 hv; omega
    · show n = min U (n + 1 - 1)
      have := hdo.1 hv; omega
    · show (201 - (n + 1)).toNat < (201 - n).toNat; omega
    · simp only [Z.in64]; omega
    · show 0 ≤ n + 1; omega
    · show n + 1 ≤ 201; omega
    · have := hdo.1 hv; omega
    · show lo = L
      rcases g3 with ⟨h, _⟩ | ⟨_, _, h, _⟩
      · rw [h] at hno; cases hno
      · exact h
    · show L < n + 1
      have := hdo.1 hv; omega
    · show n = min U (n + 1 - 1)
      have := hdo.1 hv; omega
    · show (201 - (n + 1)).toNat < (201 - n).toNat; omega
    · simp only [Z.in64]; omega
    · show 0 ≤ n + 1; omega
    · show n + 1 ≤ 201; omega
    · have hv : ¬ (L ≤ n ∧ n ≤ U) := fun h => by rw [hdo.2 h] at hv; cases hv
      rcases g3 with ⟨h1, h2, h3⟩ | ⟨h1, h2, h3, h4, h5⟩
      · refine .inl ⟨h1, h2, ?_⟩
        show n + 1 ≤ L ∨ U < L
        omega
      · refine .inr ⟨h1, h2, h3, ?_, ?_⟩
        · show L < n + 1; omega
        · show hi = min U (n + 1 - 1); omega
    · show (201 - (n + 1)).toNat < (201 - n).toNat; omega
  · have hn : ¬ n ≤ 200 := of_decide_eq_false hn
    refine ⟨fun hno => ?_, fun hno => ?_⟩
    · rcases g3 with ⟨_, _, h⟩ | ⟨h, _⟩
      · rw [hcB, decide_eq_false (by omega)]; rfl
      · have hno : none_ = true := hno
        rw [h] at hno; cases hno
    · rcases g3 with ⟨h, _⟩ | ⟨_, h2, h3, h4, h5⟩
      · have hno : none_ = false := hno
        rw [h] at hno; cases hno
      · rw [hcB, decide_eq_true h2]
        show ((lo, hi), (0 : Int)) = ((L, U), 0)
        rw [h3, show hi = U by omega]
end Go.Dust
