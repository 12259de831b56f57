/-
  Chapter 4: the conditions, proved; sixth part: the best plan, the examples, the law DieWides.
-/
import Derived.Test.YtihkgphflgojeaaDieP5
set_option linter.all false


set_option maxRecDepth 100000
namespace Go.Die
open Go Go.Sx

theorem v18 (x : Press × List Draw) (_ : k18.pre x) : V18 x := by
  obtain ⟨p, l⟩ := x
  have e : die_Plan (p, l) = planOut p l := rfl
  refine ⟨trivial, fun h => ?_, fun h => ⟨trivial, fun h2 => ?_, fun h2 => ?_⟩⟩
  · rw [e, planOut, show (!pressB p) = true from h]; rfl
  · rw [e, planOut, show (!pressB p) = false from h, show (!drawsB l) = true from h2]; rfl
  have hp : pressB p = true := not_iff.2.1 h
  have hl : drawsB l = true := not_iff.2.1 h2
  have H := press_iff.1 hp
  have L := draws_iff.1 hl
  have hl8 := L.len
  have hlen := H.len
  have q3 := best_bd H l (-1) [0, 0, 0, 0]
  obtain ⟨T, hT⟩ : ∃ T, T = bestG p l (-1) [0, 0, 0, 0] := ⟨_, rfl⟩
  rw [← hT] at q3
  have hown : die_Plan_1 ((0, (-1), List.replicate 4 0), l, p) = T := by rw [hT]; rfl
  have hO : planOut p l = cond (!T.2.2) ([], 0, 4) (T.1, T.2.1, 0) := by rw [planOut, hp, hl, hT]; rfl
  rw [e, hO]
  dsimp only
  rw [hown]
  refine ⟨⟨⟨hp, hl, ?_, ?_, ⟨?_, ?_⟩, rfl, fun n hn => ?_⟩, ⟨rfl, trivial, rfl, trivial, trivial⟩, rfl, trivial⟩, fun hx => ?_, fun hx => ⟨?_, ?_⟩⟩
  · show (0 : Int) ≤ 0; omega
  · show (0 : Int) ≤ (l.length : Int); omega
  · show (-1 : Int) ≤ -1; omega
  · show (-1 : Int) < (p.1.length : Int); omega
  · have hn : n ∈ List.replicate 4 (0 : Int) := hn
    rw [List.eq_of_mem_replicate hn]
    show (0 : Int) ≤ 0 ∧ (0 : Int) ≤ 1000 * 0
    omega
  · have hx : (!T.2.2) = true := hx
    rw [hx]; rfl
  · show T.1.length ≤ big
    simp only [big]; omega
  · have hx : (!T.2.2) = false := hx
    rw [hx]; rfl
theorem v10 (x : Unit) (_ : k10.pre x) : V10 x := by
  have a1 : die_Wide ((law04u_sample ()).1, 0, 50) = ((1845, 1911), 0) := by kernel_rfl
  have a2 : die_Last ((law04u_sample ()).1, 0, (law04u_span (1850, 2000))) = (56, 98, 0) := by kernel_rfl
  have a3 : die_Follow ((law04u_sample ()).1, (law04u_sample ()).2, ((((List.replicate 3 0).set 0 0).set 1 1).set 2 0)) = ([70, 20], 3, 0) := by kernel_rfl
  have a4 : die_Plan ((law04u_sample ()).1, (law04u_sample ()).2) = ([0, 1, 0], 11, 0) := by kernel_rfl
  have a5 : die_Follow ((law04u_sample ()).1, (((law04u_sample ()).2).set (Int.toNat 2) ((((law04u_sample ()).2).getD (Int.toNat 2) (0, 0, 0)).1, 1850, ((((law04u_sample ()).2).getD (Int.toNat 2) (0, 0, 0)).2).2)), ((((List.replicate 3 0).set 0 0).set 1 1).set 2 0)) = ([], 2, 11) := by kernel_rfl
  rw [V10, a1, a2, a3, a4, a5]
  refine ⟨trivial, trivial, trivial, trivial, trivial, trivial, ⟨by omega, by decide⟩, trivial, trivial, fun _ => ?_, fun _ => ?_, ?_⟩
  · exact Nat.le_of_ble_eq_true (by kernel_rfl)
  · exact Nat.le_of_ble_eq_true (by kernel_rfl)
  · rfl
theorem follow_len (p : Press) (plan : List Int) : ∀ (l : List Draw) (i : Nat) (used : List Int), (followGo p plan l i used).1.length ≤ used.length
  | [], i, used => by simp only [followGo]; cases decide (i < plan.length) <;> simp
  | d :: l, i, used => by
    simp only [followGo]
    have ih := follow_len p plan l (i + 1) (used.set (plan.getD i 0).toNat (used.getD (plan.getD i 0).toNat 0 + d.1))
    rw [List.length_set] at ih
    cases decide (plan.length ≤ i) <;> cases (!inB (plan.getD i 0) 0 ((p.1.length : Int) - 1)) <;> cases (!doesV p (plan.getD i 0).toNat (used.getD (plan.getD i 0).toNat 0) d) <;> simp only [cond_true, cond_false, List.length_nil] <;> omega
theorem v3 (x : Press × (List Draw) × (List Int) × Int × Int × Span) (_ : k3.pre x) : V3 x := by
  obtain ⟨p, l, plan, n, used, want⟩ := x
  refine ⟨trivial, fun _ => ⟨trivial, rfl⟩, fun h => ?_⟩
  have h : ((((decide ((8 : Int) < (l.length : Int)) && decide ((l.length : Int) ≤ 8)) || decide (12 < (l.length : Int))) || decide (8 < (p.1.length : Int))) || decide ((14 : Int) < (plan.length : Int))) = false := h
  simp only [Bool.or_eq_false_iff, decide_eq_false_iff_not] at h
  have hb1 : p.1.length ≤ big := by simp only [big]; omega
  have hb2 : l.length ≤ big := by simp only [big]; omega
  refine ⟨trivial, hb1, trivial, hb1, trivial, ⟨hb1, hb2⟩, fun _ => ?_, fun _ => trivial, ?_⟩
  · show (followV p l plan).1.length ≤ big
    have := follow_len p plan l 0 (List.replicate p.1.length 0)
    rw [List.length_replicate] at this
    unfold followV
    cases pressB p <;> cases drawsB l <;> simp [big] <;> omega
  · refine bool_ext ?_
    simp only [law04u_DieWides, law04u_awake, die_Wide, ref04u_Wide, die_Last, ref04u_Last, die_Follow, ref04u_Follow, ref04u_Ints, beq_self_eq_true, decide_true, Bool.and_self]
end Go.Die
