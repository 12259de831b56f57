/-
  Chapter 13: the conditions, proved; fifth part: the document's Follow; the laws DustCoal and DustFeeds.
-/
import Derived.Test.YtmbaggjpbjpljaaDustP4
set_option linter.all false


set_option maxRecDepth 100000
namespace Go.Dust
open Go Go.Sx

theorem v15 (x : Burn × (List Load) × List Feed) (hp : k15.pre x) : V15 x := by
  obtain ⟨b, l, plan⟩ := x
  have hbig : l.length ≤ big := hp
  have e : ref13u_Follow (b, l, plan) = followV b l plan := rfl
  rw [V15, e]
  refine ⟨trivial, fun h => ?_, fun h => ⟨hbig, fun h2 => ?_, fun h2 => ?_⟩⟩
  · rw [followV, show (!burnB b) = true from h]; rfl
  · rw [followV, show (!burnB b) = false from h, show (!loadsB l) = true from h2]; rfl
  have hb : burnB b = true := not_iff.2.1 h
  have hl : loadsB l = true := not_iff.2.1 h2
  have B := burn_iff.1 hb
  have L := loads_iff.1 hl
  have hl8 := L.len
  have hroom := B.room
  rw [follow_ok plan hb hl]
  obtain ⟨R, hR⟩ : ∃ R, R = followGo b plan l 0 0 0 [] := ⟨_, rfl⟩
  rw [← hR]
  refine ⟨fun s => ∃ i : Nat, s.2.2.2 = (i : Int) ∧ i ≤ l.length ∧ R = followGo b plan (l.drop i) i s.2.1 s.2.2.1 s.1 ∧ (0 ≤ s.2.1 ∧ s.2.1 ≤ 60) ∧ (0 ≤ s.2.2.1 ∧ s.2.2.1 ≤ 3000000 * (i : Int)) ∧ s.1.length = i, fun s => ((l.length : Int) - s.2.2.2).toNat, ⟨0, rfl, Nat.zero_le _, hR, by simp, by simp, rfl⟩, ?_⟩
  rintro ⟨out, have_, cost, i0⟩ ⟨i, g1, g2, g3, g4, g5, g6⟩
  simp only at g1 g3 g4 g5 g6
  subst g1
  refine ⟨fun hi => ?_, fun hi => ?_⟩
  · have hi : (i : Int) < (l.length : Int) := of_decide_eq_true hi
    have hil : i < l.length := by omega
    obtain ⟨y, hy⟩ : ∃ y, y = l.getD i (0, 0, 0) := ⟨_, rfl⟩
    have hyl := L.load _ (getD_mem l (0, 0, 0) i hil)
    rw [← hy] at hyl
    rw [drop_getD l (0, 0, 0) i hil, ← hy] at g3
    have q := stored_bd B g4 hyl.1
    obtain ⟨f, hf⟩ : ∃ f, f = plan.getD i (0, 0) := ⟨_, rfl⟩
    obtain ⟨hv, hhv⟩ : ∃ a, a = haveV b have_ y.1 := ⟨_, rfl⟩
    obtain ⟨cv, hcv⟩ : ∃ a, a = cartV b have_ y.1 := ⟨_, rfl⟩
    simp only [followGo] at g3
    rw [← hf, ← hhv, ← hcv] at g3
    rw [← hhv, ← hcv] at q
    have e1 : min (have_ + y.1) b.2.2.1 = hv := by rw [hhv, haveV, Int.min_comm]
    have e4 : b.2.2.2.2 * max 0 (have_ + y.1 - b.2.2.1) = cv := by
      rw [hcv, cartV]
      congr 1
      unfold haveV; omega
    have e2 : ref13u_Does (b, f, y.2) = doesB b f y.2 := rfl
    have e5 : l.getD (Int.toNat (i : Int)) (0, 0, 0) = y := hy.symm
    have e3 : plan.getD (Int.toNat (i : Int)) (0, 0) = f := hf.symm
    dsimp only
    rw [e3, e5, e1, e2, e4]
    refine ⟨fun h1 => ?_, fun h1 => ?_⟩
    · have h1 : (plan.length : Int) ≤ (i : Int) := of_decide_eq_true h1
      rw [g3, decide_eq_true (show plan.length ≤ i by omega)]; rfl
    have h1 : ¬ (plan.length : Int) ≤ (i : Int) := of_decide_eq_false h1
    rw [decide_eq_false (show ¬ plan.length ≤ i by omega), cond_false] at g3
    have ip : (0 : Int) ≤ (i : Int) ∧ (i : Int) < (plan.length : Int) := ⟨by omega, by omega⟩
    refine ⟨⟨by omega, hi⟩, ?_, ?_, ?_, ?_, ip, trivial, fun h3 => ?_, fun h3 => ⟨ip, fun h4 => ?_, fun h4 => ?_⟩⟩
    · simp only [Z.in64]; omega
    · simp only [Z.in64]; omega
    · simp only [Z.in64]; omega
    · simp only [Z.in64]; omega
    · rw [g3, show (!mayB f) = true from h3]; rfl
    · rw [g3, show (!mayB f) = false from h3, show decide (hv < f.1) = true from h4]; rfl
    have M := may_iff.1 (show mayB f = true from not_iff.2.1 h3)
    rw [show (!mayB f) = false from h3, show decide (hv < f.1) = false from h4, cond_false, cond_false] at g3
    have h4 : ¬ hv < f.1 := of_decide_eq_false h4
    refine ⟨ip, ⟨by omega, hi⟩, ⟨hb, not_iff.2.1 h3⟩, fun h5 => ?_, fun h5 => ?_⟩
    · rw [g3, show (!doesB b f y.2) = true from h5]; rfl
    rw [show (!doesB b f y.2) = false from h5, cond_false] at g3
    have qp := mul_bd (a := b.2.2.2.1) (A := 10000) B.price (b := f.2) (B := 200) M.2
    refine ⟨ip, ?_, ip, ?_, ?_, ?_, ?_, ⟨i + 1, ?_, hil, ?_, ?_, ?_, ?_⟩, ?_⟩
    · simp only [Z.in64]; omega
    · simp only [Z.in64]; omega
    · simp only [Z.in64]; omega
    · refine roomy_of (by omega) (by omega) ?_
      rw [List.length_append]; simp only [List.length_set, List.length_replicate]; omega
    · simp only [Z.in64]; omega
    · show (i : Int) + 1 = ((i + 1 : Nat) : Int); omega
    · rw [g3, ← Int.add_assoc]; rfl
    · show 0 ≤ hv - f.1 ∧ hv - f.1 ≤ 60; omega
    · show 0 ≤ cost + cv + b.2.2.2.1 * f.2 ∧ cost + cv + b.2.2.2.1 * f.2 ≤ 3000000 * ((i + 1 : Nat) : Int); omega
    · rw [List.length_append]; simp only [List.length_set, List.length_replicate]; omega
    · show ((l.length : Int) - ((i : Int) + 1)).toNat < ((l.length : Int) - (i : Int)).toNat; omega
  · have hi : ¬ (i : Int) < (l.length : Int) := of_decide_eq_false hi
    have : i = l.length := by omega
    subst this
    rw [List.drop_length, followGo] at g3
    refine ⟨fun h1 => ?_, fun h1 => ?_⟩
    · have h1 : (l.length : Int) < (plan.length : Int) := of_decide_eq_true h1
      rw [g3, decide_eq_true (show l.length < plan.length by omega)]; rfl
    · have h1 : ¬ (l.length : Int) < (plan.length : Int) := of_decide_eq_false h1
      rw [g3, decide_eq_false (show ¬ l.length < plan.length by omega)]; rfl
theorem v24 (x : Int × Burn × Int × Span) (_ : k24.pre x) : V24 x := by
  obtain ⟨n, b, d, need⟩ := x
  refine ⟨trivial, ?_⟩
  have e : dust_Heat (b, d, n) = heatV b (d, n) := rfl
  have e2 : law13u_DustCoal_1 (n, b, d, need) = (burnB b && (mayB (d, n) && doesB b (d, n) need)) := rfl
  dsimp only
  rw [e, e2, heatV]
  cases burnB b <;> cases mayB (d, n) <;> rfl
theorem coal_cases (b : Burn) (need : Span) (d : Int) :
    (burnB b = false ∧ coalV b need d = ((0, 0), 1)) ∨ (burnB b = true ∧ (spanB need 0 100000 = false ∨ inB d 0 60 = false) ∧ coalV b need d = ((0, 0), 2)) ∨
    (burnB b = true ∧ spanB need 0 100000 = true ∧ inB d 0 60 = true ∧ coalB b need d = false ∧ coalV b need d = ((0, 0), 4)) ∨
    (burnB b = true ∧ spanB need 0 100000 = true ∧ inB d 0 60 = true ∧ coalB b need d = true ∧ coalV b need d = (coalS b need d, 0)) := by
  unfold coalV
  cases burnB b <;> cases spanB need 0 100000 <;> cases inB d 0 60 <;> cases coalB b need d <;> simp
theorem v6 (x : Burn × Span × Int × Int) (hp : k6.pre x) : V6 x := by
  obtain ⟨b, need, d, other⟩ := x
  obtain ⟨ho1, ho2⟩ : 0 ≤ other ∧ other ≤ 255 := hp
  have eA : law13u_awake () = true := rfl
  have eL : law13u_DustCoal (b, need, d, other) = true := rfl
  have eC : dust_Coal (b, need, d) = coalV b need d := rfl
  have eB : ref13u_Burn b = burnB b := rfl
  have eD : ∀ n, law13u_DustCoal_1 (n, b, d, need) = (burnB b && (mayB (d, n) && doesB b (d, n) need)) := fun _ => rfl
  rw [V6]
  dsimp only
  rw [eA, eL, eC, eB, eD]
  obtain ⟨n, hn⟩ : ∃ n, n = Int.tmod other 201 := ⟨_, rfl⟩
  have hnb : 0 ≤ n ∧ n ≤ 200 := by
    rw [hn, Int.tmod_eq_emod_of_nonneg ho1]; omega
  rw [← hn]
  refine ⟨trivial, ?_⟩
  rcases coal_cases b need d with ⟨h1, e⟩ | ⟨h1, h2, e⟩ | ⟨h1, h2, h3, h4, e⟩ | ⟨h1, h2, h3, h4, e⟩
  · rw [e, h1]
    exact ⟨fun _ => ⟨fun _ => trivial, fun _ => trivial, rfl⟩, fun h => (by cases h)⟩
  · rw [e, h1]
    exact ⟨fun _ => ⟨fun _ => trivial, fun _ => trivial, rfl⟩, fun h => (by cases h)⟩
  · have B := burn_iff.1 h1
    have hs := span_iff.1 h2
    have hd := inB_iff.1 h3
    rw [e, h1]
    refine ⟨fun h => (by cases h), fun _ => ⟨trivial, fun h => ?_, fun _ => ⟨by omega, fun _ => ⟨fun _ => trivial, fun _ => trivial, ?_⟩, fun h => (by cases h)⟩⟩⟩
    · exfalso
      simp only [Bool.not_true, Bool.false_or, Bool.or_eq_true, decide_eq_true_eq] at h
      omega
    · have hno : doesB b (d, n) need = false := by
        cases hv : doesB b (d, n) need with
        | false => rfl
        | true =>
          have := (does_iff B need d n hnb).1 hv
          have h4 : decide ((coalS b need d).1 ≤ (coalS b need d).2) = false := h4
          have h4 := of_decide_eq_false h4
          omega
      rw [hno]
      cases mayB (d, n) <;> rfl
  · have B := burn_iff.1 h1
    have hs := span_iff.1 h2
    have hd := inB_iff.1 h3
    have cb := coal_bd h4
    have hdo := does_iff B need d
    obtain ⟨S, hS⟩ : ∃ S, S = coalS b need d := ⟨_, rfl⟩
    rw [← hS] at e cb hdo
    obtain ⟨L, U⟩ := S
    simp only at cb hdo
    rw [e, h1]
    have hL : (mayB (d, L) && doesB b (d, L) need) = true := by
      rw [may_iff.2 ⟨hd, by show 0 ≤ L ∧ L ≤ 200; omega⟩, (hdo L ⟨by omega, by omega⟩).2 ⟨by omega, by omega⟩]; rfl
    have hU : (mayB (d, U) && doesB b (d, U) need) = true := by
      rw [may_iff.2 ⟨hd, by show 0 ≤ U ∧ U ≤ 200; omega⟩, (hdo U ⟨by omega, by omega⟩).2 ⟨by omega, by omega⟩]; rfl
    have hL' : (mayB (d, L - 1) && doesB b (d, L - 1) need) = false := by
      cases hm : mayB (d, L - 1) with
      | false => rfl
      | true =>
        have M := may_iff.1 hm
        simp only at M
        cases hv : doesB b (d, L - 1) need with
        | false => rfl
        | true => have := (hdo (L - 1) M.2).1 hv; omega
    have hU' : (mayB (d, U + 1) && doesB b (d, U + 1) need) = false := by
      cases hm : mayB (d, U + 1) with
      | false => rfl
      | true =>
        have M := may_iff.1 hm
        simp only at M
        cases hv : doesB b (d, U + 1) need with
        | false => rfl
        | true => have := (hdo (U + 1) M.2).1 hv; omega
    have hn' : (mayB (d, n) && doesB b (d, n) need) = (decide (L ≤ n) && decide (n ≤ U)) := by
      rw [may_iff.2 ⟨hd, hnb⟩, Bool.true_and]
      refine bool_ext ?_
      rw [hdo n hnb, Bool.and_eq_true, decide_eq_true_eq, decide_eq_true_eq]
    have hin : ((decide (L < 0) || decide (U < L)) || decide (200 < U)) = false := by
      simp only [Bool.or_eq_false_iff, decide_eq_false_iff_not]; omega
    dsimp only
    rw [eD, eD, eD, eD, h1, hL, hU, hL', hU', hn', hin]
    refine ⟨fun h => (by cases h), fun _ => ⟨trivial, fun h => ?_, fun _ => ⟨by omega, fun h => (by cases h), fun _ => ⟨fun _ => trivial, fun _ => trivial, fun _ => ?_, fun _ => trivial, fun _ => ?_, fun _ => trivial, fun h => (by cases h), fun _ => ⟨trivial, fun _ => trivial, ?_⟩⟩⟩⟩⟩
    · exfalso
      simp only [Bool.not_true, Bool.false_or, Bool.or_eq_true, decide_eq_true_eq] at h
      omega
    · simp only [Z.in64]; omega
    · simp only [Z.in64]; omega
    · rw [Bool.true_and, beq_self_eq_true]; rfl
theorem follow_len (b : Burn) (plan : List Feed) : ∀ (l : List Load) (i : Nat) (have_ cost : Int) (left : List Int), (followGo b plan l i have_ cost left).1.length ≤ left.length + l.length
  | [], i, have_, cost, left => by simp only [followGo]; cases decide (i < plan.length) <;> simp
  | x :: l, i, have_, cost, left => by
    simp only [followGo]
    cases decide (plan.length ≤ i) <;> cases (!mayB (plan.getD i (0, 0))) <;> cases decide (haveV b have_ x.1 < (plan.getD i (0, 0)).1) <;> cases (!doesB b (plan.getD i (0, 0)) x.2) <;> simp only [cond_true, cond_false, List.length_nil] <;> try omega
    have := follow_len b plan l (i + 1) (haveV b have_ x.1 - (plan.getD i (0, 0)).1) (cost + (cartV b have_ x.1 + b.2.2.2.1 * (plan.getD i (0, 0)).2)) (left ++ [haveV b have_ x.1 - (plan.getD i (0, 0)).1])
    simp only [List.length_append, List.length_cons, List.length_nil] at this ⊢
    omega
theorem v3 (x : Burn × (List Load) × (List Feed) × Feed × Span × Int) (_ : k3.pre x) : V3 x := by
  obtain ⟨b, l, plan, f, need, d⟩ := x
  refine ⟨fun _ => ⟨trivial, rfl⟩, fun h => ?_⟩
  have h : (decide ((12 : Int) < (l.length : Int)) || decide ((14 : Int) < (plan.length : Int))) = false := h
  simp only [Bool.or_eq_false_iff, decide_eq_false_iff_not] at h
  refine ⟨trivial, trivial, trivial, trivial, trivial, by show l.length ≤ big; simp only [big]; omega, fun _ => ?_, fun _ => trivial, ?_⟩
  · show (followV b l plan).1.length ≤ big
    have := follow_len b plan l 0 0 0 []
    simp only [List.length_nil] at this
    unfold followV
    cases burnB b <;> cases loadsB l <;> simp [big] <;> omega
  · refine bool_ext ?_
    simp only [law13u_DustFeeds, law13u_awake, dust_Heat, ref13u_Heat, dust_Coal, ref13u_Coal, dust_Follow, ref13u_Follow, ref13u_Ints, beq_self_eq_true, decide_true, Bool.and_self]
end Go.Dust
