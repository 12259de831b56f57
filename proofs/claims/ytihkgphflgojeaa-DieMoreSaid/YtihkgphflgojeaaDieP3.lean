/-
  Chapter 4: the conditions, proved; third part: Follow; the document's Last.
-/
import Derived.Test.YtihkgphflgojeaaDieP2
set_option linter.all false


set_option maxRecDepth 100000
namespace Go.Die
open Go Go.Sx

theorem follow_ok {p : Press} {l : List Draw} (plan : List Int) (h : pressB p = true) (h2 : drawsB l = true) : followV p l plan = followGo p plan l 0 (List.replicate p.1.length 0) := by
  rw [followV, h, h2]; rfl
theorem used_set {u : List Int} {k i : Nat} {c : Int} (hu : ∀ n ∈ u, 0 ≤ n ∧ n ≤ 1000 * (i : Int)) (hk : k < u.length) (hc : 1 ≤ c ∧ c ≤ 1000) :
    (0 ≤ u.getD k 0 ∧ u.getD k 0 ≤ 1000 * (i : Int)) ∧ ∀ n ∈ u.set k (u.getD k 0 + c), 0 ≤ n ∧ n ≤ 1000 * ((i + 1 : Nat) : Int) := by
  have h := hu _ (getD_mem u 0 k hk)
  refine ⟨h, fun n hn => ?_⟩
  rcases List.mem_or_eq_of_mem_set hn with hn | rfl
  · have := hu n hn; omega
  · omega
theorem v15 (x : Press × (List Draw) × List Int) (_ : k15.pre x) : V15 x := by
  obtain ⟨p, l, plan⟩ := x
  have e : die_Follow (p, l, plan) = followV p l plan := rfl
  rw [V15, e]
  refine ⟨trivial, fun h => ?_, fun h => ⟨trivial, fun h2 => ?_, fun h2 => ?_⟩⟩
  · rw [followV, show (!pressB p) = true from h]; rfl
  · rw [followV, show (!pressB p) = false from h, show (!drawsB l) = true from h2]; rfl
  have hp : pressB p = true := not_iff.2.1 h
  have hl : drawsB l = true := not_iff.2.1 h2
  have H := press_iff.1 hp
  have L := draws_iff.1 hl
  have hl8 := L.len
  have hlen := H.len
  rw [follow_ok plan hp hl]
  obtain ⟨R, hR⟩ : ∃ R, R = followGo p plan l 0 (List.replicate p.1.length 0) := ⟨_, rfl⟩
  rw [← hR]
  refine ⟨⟨⟨by omega, Int.le_refl _⟩, roomy_of (by omega) (by omega) (by show (p.1.length : Int) ≤ _; omega)⟩, fun s => ∃ i : Nat, s.2 = (i : Int) ∧ i ≤ l.length ∧ s.1.length = p.1.length ∧ (∀ n ∈ s.1, 0 ≤ n ∧ n ≤ 1000 * (i : Int)) ∧ R = followGo p plan (l.drop i) i s.1, fun s => ((l.length : Int) - s.2).toNat, ⟨0, rfl, Nat.zero_le _, by simp, fun n hn => by rw [List.eq_of_mem_replicate hn]; omega, hR⟩, ?_⟩
  rintro ⟨used, i0⟩ ⟨i, g1, g2, g3, g4, g5⟩
  simp only at g1 g3 g4 g5
  subst g1
  refine ⟨fun hi => ?_, fun hi => ?_⟩
  · have hi : (i : Int) < (l.length : Int) := of_decide_eq_true hi
    have hil : i < l.length := by omega
    obtain ⟨y, hy⟩ : ∃ y, y = l.getD i (0, 0, 0) := ⟨_, rfl⟩
    have hyl := L.draw _ (getD_mem l (0, 0, 0) i hil)
    rw [← hy] at hyl
    rw [drop_getD l (0, 0, 0) i hil, ← hy] at g5
    obtain ⟨k, hk⟩ : ∃ k, k = plan.getD i 0 := ⟨_, rfl⟩
    have e1 : plan.getD (Int.toNat (i : Int)) 0 = k := hk.symm
    have e2 : l.getD (Int.toNat (i : Int)) (0, 0, 0) = y := hy.symm
    simp only [followGo] at g5
    rw [← hk] at g5
    dsimp only
    rw [e1, e2]
    refine ⟨⟨by omega, hi⟩, fun h1 => ?_, fun h1 => ?_⟩
    · have h1 : (plan.length : Int) ≤ (i : Int) := of_decide_eq_true h1
      rw [g5, decide_eq_true (show plan.length ≤ i by omega)]; rfl
    have h1 : ¬ (plan.length : Int) ≤ (i : Int) := of_decide_eq_false h1
    rw [decide_eq_false (show ¬ plan.length ≤ i by omega), cond_false] at g5
    have ip : (0 : Int) ≤ (i : Int) ∧ (i : Int) < (plan.length : Int) := ⟨by omega, by omega⟩
    refine ⟨ip, by simp only [Z.in64]; omega, trivial, fun h3 => ?_, fun h3 => ?_⟩
    · rw [g5, show (!inB k 0 ((p.1.length : Int) - 1)) = true from h3]; rfl
    have hkk := ix_ok (not_iff.2.1 (show (!inB k 0 ((p.1.length : Int) - 1)) = false from h3))
    rw [show (!inB k 0 ((p.1.length : Int) - 1)) = false from h3, cond_false] at g5
    obtain ⟨u1, u2⟩ := used_set (k := k.toNat) g4 (by omega) hyl.1
    have M := mount_ok H (k := k.toNat) (by omega)
    have ed : die_mounted_fits ((die_mount (p, k)), (used.getD k.toNat 0), ((used.getD k.toNat 0) + y.1), y.2) = doesV p k.toNat (used.getD k.toNat 0) y := rfl
    rw [ed]
    refine ⟨ip, ⟨hkk.1, by omega⟩, ip, hkk, by simp only [Z.in64]; omega, ⟨M, ⟨by show 0 ≤ used.getD k.toNat 0; omega, by show used.getD k.toNat 0 ≤ 20000; omega⟩, ⟨by show 0 ≤ used.getD k.toNat 0 + y.1; omega, by show used.getD k.toNat 0 + y.1 ≤ 20000; omega⟩, span_iff.2 hyl.2⟩, fun h5 => ?_, fun h5 => ?_⟩
    · rw [g5, show (!doesV p k.toNat (used.getD k.toNat 0) y) = true from h5]; rfl
    rw [show (!doesV p k.toNat (used.getD k.toNat 0) y) = false from h5, cond_false] at g5
    refine ⟨by simp only [Z.in64]; omega, by simp only [Z.in64]; omega, ⟨i + 1, by show (i : Int) + 1 = ((i + 1 : Nat) : Int); omega, hil, by rw [List.length_set]; exact g3, u2, g5⟩, ?_⟩
    show ((l.length : Int) - ((i : Int) + 1)).toNat < ((l.length : Int) - (i : Int)).toNat; omega
  · have hi : ¬ (i : Int) < (l.length : Int) := of_decide_eq_false hi
    have : i = l.length := by omega
    subst this
    rw [List.drop_length, followGo] at g5
    refine ⟨fun h1 => ?_, fun h1 => ?_⟩
    · have h1 : (l.length : Int) < (plan.length : Int) := of_decide_eq_true h1
      rw [g5, decide_eq_true (show l.length < plan.length by omega)]; rfl
    · have h1 : ¬ (l.length : Int) < (plan.length : Int) := of_decide_eq_false h1
      rw [g5, decide_eq_false (show ¬ l.length < plan.length by omega)]; rfl
theorem v16 (x : Press × (List Draw) × List Int) (hx : k16.pre x) : V16 x := by
  obtain ⟨p, l, plan⟩ := x
  obtain ⟨hb1, hb2⟩ : p.1.length ≤ big ∧ l.length ≤ big := hx
  have e : ref04u_Follow (p, l, plan) = followV p l plan := rfl
  rw [V16, e]
  refine ⟨hb1, fun h => ?_, fun h => ⟨hb2, fun h2 => ?_, fun h2 => ?_⟩⟩
  · rw [followV, show (!pressB p) = true from h]; rfl
  · rw [followV, show (!pressB p) = false from h, show (!drawsB l) = true from h2]; rfl
  have hp : pressB p = true := not_iff.2.1 h
  have hl : drawsB l = true := not_iff.2.1 h2
  have H := press_iff.1 hp
  have L := draws_iff.1 hl
  have hl8 := L.len
  have hlen := H.len
  rw [follow_ok plan hp hl]
  obtain ⟨R, hR⟩ : ∃ R, R = followGo p plan l 0 (List.replicate p.1.length 0) := ⟨_, rfl⟩
  rw [← hR]
  refine ⟨⟨⟨by omega, Int.le_refl _⟩, roomy_of (by omega) (by omega) (by show (p.1.length : Int) ≤ _; omega)⟩, fun s => ∃ i : Nat, s.1 = (i : Int) ∧ i ≤ l.length ∧ s.2.length = p.1.length ∧ (∀ n ∈ s.2, 0 ≤ n ∧ n ≤ 1000 * (i : Int)) ∧ R = followGo p plan (l.drop i) i s.2, fun s => ((l.length : Int) - s.1).toNat, ⟨0, rfl, Nat.zero_le _, by simp, fun n hn => by rw [List.eq_of_mem_replicate hn]; omega, hR⟩, ?_⟩
  rintro ⟨i0, used⟩ ⟨i, g1, g2, g3, g4, g5⟩
  simp only at g1 g3 g4 g5
  subst g1
  refine ⟨fun hi => ?_, fun hi => ?_⟩
  · have hi : (i : Int) < (l.length : Int) := of_decide_eq_true hi
    have hil : i < l.length := by omega
    obtain ⟨y, hy⟩ : ∃ y, y = l.getD i (0, 0, 0) := ⟨_, rfl⟩
    have hyl := L.draw _ (getD_mem l (0, 0, 0) i hil)
    rw [← hy] at hyl
    rw [drop_getD l (0, 0, 0) i hil, ← hy] at g5
    obtain ⟨k, hk⟩ : ∃ k, k = plan.getD i 0 := ⟨_, rfl⟩
    have e1 : plan.getD (Int.toNat (i : Int)) 0 = k := hk.symm
    have e2 : l.getD (Int.toNat (i : Int)) (0, 0, 0) = y := hy.symm
    simp only [followGo] at g5
    rw [← hk] at g5
    dsimp only
    rw [e1, e2]
    refine ⟨fun h1 => ?_, fun h1 => ?_⟩
    · have h1 : (plan.length : Int) ≤ (i : Int) := of_decide_eq_true h1
      rw [g5, decide_eq_true (show plan.length ≤ i by omega)]; rfl
    have h1 : ¬ (plan.length : Int) ≤ (i : Int) := of_decide_eq_false h1
    rw [decide_eq_false (show ¬ plan.length ≤ i by omega), cond_false] at g5
    have ip : (0 : Int) ≤ (i : Int) ∧ (i : Int) < (plan.length : Int) := ⟨by omega, by omega⟩
    have il : (0 : Int) ≤ (i : Int) ∧ (i : Int) < (l.length : Int) := ⟨by omega, hi⟩
    refine ⟨ip, by simp only [Z.in64]; omega, trivial, fun h3 => ?_, fun h3 => ?_⟩
    · rw [g5, show (!inB k 0 ((p.1.length : Int) - 1)) = true from h3]; rfl
    have hkk := ix_ok (not_iff.2.1 (show (!inB k 0 ((p.1.length : Int) - 1)) = false from h3))
    rw [show (!inB k 0 ((p.1.length : Int) - 1)) = false from h3, cond_false] at g5
    obtain ⟨u1, u2⟩ := used_set (k := k.toNat) g4 (by omega) hyl.1
    have ed : ref04u_Does (p, k, (used.getD k.toNat 0), y) = doesV p k.toNat (used.getD k.toNat 0) y := rfl
    rw [ed]
    have ik : (0 : Int) ≤ k ∧ k < (used.length : Int) := ⟨hkk.1, by omega⟩
    refine ⟨ip, ip, ik, il, ⟨hp, hkk, ⟨by show 0 ≤ used.getD k.toNat 0; omega, by show used.getD k.toNat 0 ≤ 10000; omega⟩, draw_iff.2 hyl⟩, fun h5 => ?_, fun h5 => ?_⟩
    · rw [g5, show (!doesV p k.toNat (used.getD k.toNat 0) y) = true from h5]; rfl
    rw [show (!doesV p k.toNat (used.getD k.toNat 0) y) = false from h5, cond_false] at g5
    refine ⟨ip, ip, ik, il, by simp only [Z.in64]; omega, ik, by simp only [Z.in64]; omega, ⟨i + 1, by show (i : Int) + 1 = ((i + 1 : Nat) : Int); omega, hil, by rw [List.length_set]; exact g3, u2, g5⟩, ?_⟩
    show ((l.length : Int) - ((i : Int) + 1)).toNat < ((l.length : Int) - (i : Int)).toNat; omega
  · have hi : ¬ (i : Int) < (l.length : Int) := of_decide_eq_false hi
    have : i = l.length := by omega
    subst this
    rw [List.drop_length, followGo] at g5
    refine ⟨fun h1 => ?_, fun h1 => ?_⟩
    · have h1 : (l.length : Int) < (plan.length : Int) := of_decide_eq_true h1
      rw [g5, decide_eq_true (show l.length < plan.length by omega)]; rfl
    · have h1 : ¬ (l.length : Int) < (plan.length : Int) := of_decide_eq_false h1
      rw [g5, decide_eq_false (show ¬ l.length < plan.length by omega)]; rfl
theorem v28 (x : Unit) (_ : k28.pre x) : V28 x := by
  refine ⟨trivial, trivial, trivial, trivial, trivial, trivial, ?_⟩
  rfl
theorem same_loop {α : Type} (d : α) (c : α → α → Bool) (hc : ∀ a b, c a b = true ↔ a = b) (a b : List α) (R : Bool) (hR : R = true ↔ a = b) (hb : a.length ≤ big) :
    (((!((a.length : Int) == (b.length : Int))) = true) → ((false : Bool) = R)) ∧ (((!((a.length : Int) == (b.length : Int))) = false) → Z.LoopP (X := Int) (0) (fun s0 K0 => (((decide ((s0 : Int) < (a.length : Int)) = true) → (((0 : Int) ≤ s0 ∧ (s0 : Int) < (a.length : Int)) ∧ (((0 : Int) ≤ s0 ∧ (s0 : Int) < (b.length : Int)) ∧ ((((!(c (a.getD (Int.toNat s0) d) (b.getD (Int.toNat s0) d))) = true) → ((false : Bool) = R)) ∧ (((!(c (a.getD (Int.toNat s0) d) (b.getD (Int.toNat s0) d))) = false) → (Z.in64 (s0 + 1) ∧ (K0 (s0 + 1)))))))) ∧ ((decide ((s0 : Int) < (a.length : Int)) = false) → ((true : Bool) = R))))) := by
  have hF : ¬ a = b → false = R := fun h => by cases hr : R with
    | false => rfl
    | true => exact absurd (hR.1 hr) h
  simp only [big] at hb
  refine ⟨fun h => hF ?_, fun h => ?_⟩
  · rintro rfl
    simp at h
  · have hl : a.length = b.length := by simp at h; omega
    refine ⟨fun s => 0 ≤ s ∧ s ≤ (a.length : Int) ∧ (a = b ↔ a.drop s.toNat = b.drop s.toNat), fun s => ((a.length : Int) - s).toNat, ⟨by omega, by omega, by simp⟩, ?_⟩
    rintro s ⟨h1, h2, h3⟩
    refine ⟨fun h => ?_, fun h => ?_⟩
    · have h : s < (a.length : Int) := of_decide_eq_true h
      have e := drop_getD' a d s h1 h
      have e' := drop_getD' b d s h1 (by omega)
      rw [e, e', List.cons.injEq] at h3
      refine ⟨⟨h1, h⟩, ⟨h1, by omega⟩, fun hv => hF ?_, fun hv => ⟨?_, ⟨?_, ?_, ?_⟩, ?_⟩⟩
      · intro hab
        have h4 := (h3.1 hab).1
        rw [h4, (hc _ _).2 rfl] at hv
        simp at hv
      · simp only [Z.in64]; omega
      · omega
      · omega
      · rw [h3]
        have h4 := (hc _ _).1 (not_iff.2.1 hv)
        simp only [h4, true_and]
      · simp only; omega
    · have h := of_decide_eq_false h
      refine (hR.2 ?_).symm
      rw [h3, List.drop_eq_nil_of_le (by omega), List.drop_eq_nil_of_le (by omega)]
theorem v17 (x : (List Int) × List Int) (h : k17.pre x) : V17 x := same_loop 0 (fun a b => a == b) (fun a b => beq_iff_eq) x.1 x.2 _ decide_eq_true_iff h
end Go.Die
