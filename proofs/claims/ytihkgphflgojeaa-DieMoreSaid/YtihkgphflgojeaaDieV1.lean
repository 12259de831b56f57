/-
  Chapter 4: the law DieBest.
-/
import Derived.Test.YtihkgphflgojeaaDieAuto2
import Derived.Test.YtihkgphflgojeaaDieO1
set_option linter.all false


set_option maxRecDepth 100000
namespace Go.Die
open Go Go.Sx

theorem tabs_ok2 : TabsOk Go.Proofs.Try.prog T2 := by
  refine ⟨by kernel_rfl, fun p hp => ?_⟩
  simp only [T2, List.mem_singleton] at hp
  subst hp
  exact tabs_ok.mty _ (by simp [T])
theorem tmod_bd {a n : Int} (ha : 0 ≤ a) (hn : 0 < n) : 0 ≤ Int.tmod a n ∧ Int.tmod a n < n := by
  rw [Int.tmod_eq_emod_of_nonneg ha]
  exact ⟨Int.emod_nonneg _ (by omega), Int.emod_lt_of_pos _ hn⟩
/-- The die of the turn before one. -/
def lastAt (plan : List Int) : Nat → Int
  | 0 => -1
  | i + 1 => plan.getD i 0
theorem v22 (x : Press × List Int) (hp : k22.pre x) : V22 x := by
  obtain ⟨p, plan⟩ := x
  obtain ⟨h1, h2, h3⟩ : pressB p = true ∧ plan.length ≤ 20 ∧ ∀ k ∈ plan, 0 ≤ k ∧ k ≤ 10 := hp
  have H := press_iff.1 h1
  have hch := H.change
  have e : ref04u_Cost (p, plan) = costGo p (-1) plan := rfl
  rw [V22, e]
  refine ⟨fun s => ∃ i : Nat, s.2 = (i : Int) ∧ i ≤ plan.length ∧ (0 ≤ s.1 ∧ s.1 ≤ 20000 * (i : Int)) ∧ costGo p (-1) plan = s.1 + costGo p (lastAt plan i) (plan.drop i), fun s => ((plan.length : Int) - s.2).toNat, ⟨0, rfl, Nat.zero_le _, by simp, by simp [lastAt]⟩, ?_⟩
  rintro ⟨n, i0⟩ ⟨i, g1, g2, g3, g4⟩
  simp only at g1 g3 g4
  subst g1
  refine ⟨fun hi => ?_, fun hi => ?_⟩
  · have hi : (i : Int) < (plan.length : Int) := of_decide_eq_true hi
    have hil : i < plan.length := by omega
    obtain ⟨k, hk⟩ : ∃ k, k = plan.getD i 0 := ⟨_, rfl⟩
    have hkb := h3 _ (getD_mem plan 0 i hil)
    rw [← hk] at hkb
    rw [drop_getD plan 0 i hil, ← hk, costGo] at g4
    have e1 : plan.getD (Int.toNat (i : Int)) 0 = k := hk.symm
    have hm : ((plan.length : Int) - ((i : Int) + 1)).toNat < ((plan.length : Int) - (i : Int)).toNat := by omega
    have elast : lastAt plan (i + 1) = k := by rw [lastAt, hk]
    have hcond : (decide ((0 : Int) < (i : Int)) && !(k == plan.getD (Int.toNat ((i : Int) - 1)) 0)) = (!(lastAt plan i == -1) && !(lastAt plan i == k)) := by
      cases i with
      | zero => rfl
      | succ j =>
        have hjb := h3 _ (getD_mem plan 0 j (by omega))
        rw [lastAt, decide_eq_true (show (0 : Int) < ((j + 1 : Nat) : Int) by omega), show Int.toNat (((j + 1 : Nat) : Int) - 1) = j by omega, show (plan.getD j 0 == -1) = false by rw [beq_eq_false_iff_ne]; omega, Bool.beq_comm]
        rfl
    dsimp only
    rw [e1, hcond]
    refine ⟨⟨by omega, hi⟩, by simp only [Z.in64]; omega, fun _ => ⟨by omega, hi⟩, fun _ => by simp only [Z.in64]; omega, fun hh => ?_, fun hc => ?_, fun hc => ?_⟩
    · have hh : (0 : Int) < (i : Int) := of_decide_eq_true hh
      exact ⟨by omega, by omega⟩
    · have hcv : changeV p (lastAt plan i) k = p.2.2 := by rw [changeV, show (!(lastAt plan i == -1) && !(lastAt plan i == k)) = true from hc]; rfl
      refine ⟨by simp only [Z.in64]; omega, by simp only [Z.in64]; omega, ⟨i + 1, by show (i : Int) + 1 = ((i + 1 : Nat) : Int); omega, hil, ⟨by show 0 ≤ n + k + p.2.2; omega, by show n + k + p.2.2 ≤ _; omega⟩, ?_⟩, hm⟩
      show _ = n + k + p.2.2 + _
      rw [elast, g4, hcv]; omega
    · have hcv : changeV p (lastAt plan i) k = 0 := by rw [changeV, show (!(lastAt plan i == -1) && !(lastAt plan i == k)) = false from hc]; rfl
      refine ⟨by simp only [Z.in64]; omega, ⟨i + 1, by show (i : Int) + 1 = ((i + 1 : Nat) : Int); omega, hil, ⟨by show 0 ≤ n + k; omega, by show n + k ≤ _; omega⟩, ?_⟩, hm⟩
      show _ = n + k + _
      rw [elast, g4, hcv]; omega
  · have hi : ¬ (i : Int) < (plan.length : Int) := of_decide_eq_false hi
    rw [List.drop_eq_nil_of_le (by omega), costGo] at g4
    show n = _
    omega
/-- A plan of dies that there are. -/
theorem near_follow {p : Press} {plan : List Int} : ∀ (l : List Draw) (i : Nat) (used : List Int), (plan.drop i).length = l.length → (∀ k ∈ plan, 0 ≤ k ∧ k < (p.1.length : Int)) →
    (followGo p plan l i used).2.2 = 0 ∨ ∃ j : Nat, followGo p plan l i used = ([], (j : Int), 11) ∧ j < i + l.length
  | [], i, used, h, _ => by
    rw [List.length_drop, List.length_nil] at h
    simp only [followGo]
    rw [decide_eq_false (show ¬ i < plan.length by omega)]
    exact .inl rfl
  | d :: l, i, used, h, hk => by
    rw [List.length_drop, List.length_cons] at h
    simp only [followGo]
    have hi : i < plan.length := by omega
    have hkk := hk _ (getD_mem plan 0 i hi)
    rw [decide_eq_false (show ¬ plan.length ≤ i by omega), show inB (plan.getD i 0) 0 ((p.1.length : Int) - 1) = true from inB_iff.2 (by omega)]
    cases hd : doesV p (plan.getD i 0).toNat (used.getD (plan.getD i 0).toNat 0) d with
    | false => exact .inr ⟨i, rfl, by rw [List.length_cons]; omega⟩
    | true =>
      rcases near_follow l (i + 1) (used.set (plan.getD i 0).toNat (used.getD (plan.getD i 0).toNat 0 + d.1)) (by rw [List.length_drop]; omega) hk with g | ⟨j, g, hj⟩
      · exact .inl g
      · exact .inr ⟨j, g, by rw [List.length_cons]; omega⟩
theorem lexle_step {P Q : List Int} {k : Nat} (h : lexle (P.drop k) (Q.drop k)) (h1 : k < P.length) (h2 : k < Q.length) :
    P.getD k 0 < Q.getD k 0 ∨ (P.getD k 0 = Q.getD k 0 ∧ lexle (P.drop (k + 1)) (Q.drop (k + 1))) := by
  rw [drop_getD P 0 k h1, drop_getD Q 0 k h2] at h
  exact h
theorem v7 (x : Press × (List Draw) × List Int) (hx : k7.pre x) : V7 x := by
  obtain ⟨p, l, by_⟩ := x
  obtain ⟨hby, hbl⟩ : (∀ b ∈ by_, 0 ≤ b ∧ b ≤ 255) ∧ by_.length ≤ 140737488355328 := hx
  have eA : law04u_awake () = true := rfl
  have eL : law04u_DieBest (p, l, by_) = true := rfl
  have eB : ref04u_Press p = pressB p := rfl
  have eO : ref04u_Draws l = drawsB l := rfl
  have eP : die_Plan (p, l) = planOut p l := rfl
  have eF : ∀ q, die_Follow (p, l, q) = followV p l q := fun _ => rfl
  have eC : ∀ q, ref04u_Cost (p, q) = costGo p (-1) q := fun _ => rfl
  have eG : law04u_large (p, l, 8) = (((decide ((8 : Int) < (l.length : Int)) && decide ((l.length : Int) ≤ 8)) || decide (12 < (l.length : Int))) || decide (8 < (p.1.length : Int))) := rfl
  rw [V7]
  dsimp only
  rw [eA, eL, eB, eO, eP, eG]
  refine ⟨trivial, fun h => ?_, fun h => ?_, fun _ => ⟨trivial, rfl⟩, fun h => ⟨trivial, ?_⟩⟩
  · simp only [Bool.or_eq_false_iff, decide_eq_false_iff_not] at h
    show p.1.length ≤ big
    simp only [big]; omega
  · simp only [Bool.or_eq_false_iff, decide_eq_false_iff_not] at h
    show l.length ≤ big
    simp only [big]; omega
  simp only [Bool.or_eq_false_iff, decide_eq_false_iff_not, Bool.not_eq_false', beq_eq_false_iff_ne] at h
  obtain ⟨⟨⟨_, hn0⟩, hp⟩, hl⟩ := h
  have hn : (0 : Int) < (by_.length : Int) := by omega
  have H := press_iff.1 hp
  have L := draws_iff.1 hl
  have hl8 := L.len
  have hlen := H.len
  refine ⟨fun s => ∃ i : Nat, s.2 = (i : Int) ∧ i ≤ l.length ∧ s.1.length = i ∧ ∀ k ∈ s.1, 0 ≤ k ∧ k < (p.1.length : Int), fun s => ((l.length : Int) - s.2).toNat, ⟨0, rfl, Nat.zero_le _, rfl, fun k hk => (by cases hk)⟩, ?_⟩
  rintro ⟨other, i0⟩ ⟨i, g1, g2, g3, g4⟩
  simp only at g1 g3 g4
  subst g1
  refine ⟨fun hi => ?_, fun hi => ?_⟩
  · have hi : (i : Int) < (l.length : Int) := of_decide_eq_true hi
    have hm := tmod_bd (a := (i : Int)) (n := (by_.length : Int)) (by omega) hn
    have hw := hby _ (getD_mem' by_ 0 _ hm.1 hm.2)
    have hd := tmod_bd (a := by_.getD (Int.toNat (Int.tmod (i : Int) (by_.length : Int))) 0) (n := (p.1.length : Int)) hw.1 (by omega)
    refine ⟨by omega, hm, by omega, roomy_of (by omega) (by omega) ?_, by simp only [Z.in64]; omega, rfl, ⟨i + 1, by show (i : Int) + 1 = ((i + 1 : Nat) : Int); omega, by omega, ?_, fun k hk => ?_⟩, by show ((l.length : Int) - ((i : Int) + 1)).toNat < ((l.length : Int) - (i : Int)).toNat; omega⟩
    · rw [List.length_append]; simp only [List.length_set, List.length_replicate]; omega
    · rw [List.length_append]; simp only [List.length_set, List.length_replicate]; omega
    · rcases List.mem_append.1 hk with hk | hk
      · exact g4 k hk
      · have hk : k ∈ [Int.tmod (by_.getD (Int.toNat (Int.tmod (i : Int) (by_.length : Int))) 0) (p.1.length : Int)] := hk
        rw [List.mem_singleton.1 hk]
        exact hd
  · have hi : ¬ (i : Int) < (l.length : Int) := of_decide_eq_false hi
    have hol : other.length = l.length := by omega
    dsimp only
    rw [eF, eC]
    refine ⟨trivial, fun h0 => ⟨fun _ => trivial, ?_⟩, fun h0 => ?_⟩
    · have hne : (followV p l other).2.2 ≠ 0 := by simpa using h0
      rw [follow_ok other hp hl] at hne ⊢
      rcases near_follow (p := p) (plan := other) l 0 (List.replicate p.1.length 0) (by rw [List.drop_zero]; exact hol) g4 with g | ⟨k, g, hk⟩
      · exact absurd g hne
      · rw [g]
        dsimp only
        rw [decide_eq_true (show (k : Int) < (l.length : Int) by omega)]
        rcases best_all hp hl with ⟨e, _⟩ | ⟨P, e, _, _⟩ <;> rw [e] <;> rfl
    · have h00 : (followV p l other).2.2 = 0 := by simpa using h0
      have hfit := (follow_all hp hl other).2 h00
      rcases best_all hp hl with ⟨e, hno⟩ | ⟨P, e, hf, hopt⟩
      · exact absurd hfit (hno other)
      rw [e]
      dsimp only
      have hPl := fits_len hf
      obtain ⟨o1, o2⟩ := hopt other hfit
      refine ⟨fun h => ?_, fun _ => ⟨⟨hp, by show other.length ≤ 20; omega, fun k hk => by have := g4 k hk; omega⟩, fun hne => ⟨fun _ => trivial, ?_⟩, fun heq => ?_⟩⟩
      · exfalso
        rw [hPl] at h
        simp at h
      · have hne : costGo p (-1) other ≠ costGo p (-1) P := by simpa using hne
        rw [decide_eq_true (by omega)]; rfl
      have heq : costGo p (-1) other = costGo p (-1) P := by simpa using heq
      have hlex := o2 heq.symm
      refine ⟨fun s => ∃ k : Nat, s = (k : Int) ∧ k ≤ P.length ∧ lexle (P.drop k) (other.drop k), fun s => ((P.length : Int) - s).toNat, ⟨0, rfl, Nat.zero_le _, hlex⟩, ?_⟩
      rintro s ⟨k, rfl, r2, r3⟩
      refine ⟨fun hk => ?_, fun hk => ⟨trivial, rfl⟩⟩
      have hk : (k : Int) < (l.length : Int) := of_decide_eq_true hk
      have hP : (0 : Int) ≤ (k : Int) ∧ (k : Int) < (P.length : Int) := ⟨by omega, by omega⟩
      have hO : (0 : Int) ≤ (k : Int) ∧ (k : Int) < (other.length : Int) := ⟨by omega, by omega⟩
      have hstep := lexle_step r3 (by omega) (by omega)
      have e1 : P.getD (Int.toNat (k : Int)) 0 = P.getD k 0 := rfl
      have e2 : other.getD (Int.toNat (k : Int)) 0 = other.getD k 0 := rfl
      rw [e1, e2]
      obtain ⟨u, hu⟩ : ∃ u, u = P.getD k 0 := ⟨_, rfl⟩
      obtain ⟨v, hv⟩ : ∃ u, u = other.getD k 0 := ⟨_, rfl⟩
      rw [← hu, ← hv] at hstep ⊢
      refine ⟨hP, hO, fun hne => ⟨hP, hO, fun _ => trivial, ?_⟩, fun heq => ⟨by simp only [Z.in64]; omega, rfl, rfl, rfl, ⟨k + 1, by omega, by omega, ?_⟩, by show ((P.length : Int) - ((k : Int) + 1)).toNat < ((P.length : Int) - (k : Int)).toNat; omega⟩⟩
      · have hne : u ≠ v := by simpa using hne
        rcases hstep with h1 | ⟨h1, _⟩
        · rw [decide_eq_true h1]; rfl
        · exact absurd h1 hne
      · have heq : u = v := by simpa using heq
        rcases hstep with h1 | ⟨_, h2⟩
        · omega
        · exact h2
end Go.Die
