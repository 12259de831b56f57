/-
  Chapter 3: the reference's Check and Why, and FireChecks: their conditions proved.
-/
import Derived.Test.YtfjkenhmaebpmaaFireP10
set_option linter.all false
set_option maxRecDepth 100000
set_option linter.unusedVariables false
namespace Go.Fire
open Go Go.Sx
theorem sameL_refl : ∀ l : List Int, sameL l l = true
 | [] => rfl
 | a :: l => by rw [sameL, sameL_refl l]; simp
theorem brkGo_nonneg (x : Stand × List Int) : ∀ R : List (Int × Fun (Stand × List Int) Int), (∀ r ∈ R, 0 ≤ r.1) → 0 ≤ (brkGo x R).1
 | [], _ => Int.le_refl _
 | r :: R, h => by
  rw [brkGo]
  cases decide (0 ≤ r.2.val x) with
  | true => exact h r List.mem_cons_self
  | false => exact brkGo_nonneg x R fun q hq => h q (List.mem_cons_of_mem _ hq)
theorem brk_nonneg (s : Stand) (l : List Int) : 0 ≤ (fire_stand_broken (s, l)).1 := by
 refine brkGo_nonneg (s, l) (fire_rules ()) fun r hr => ?_
 simp only [fire_rules, List.mem_cons, List.not_mem_nil, or_false] at hr
 rcases hr with rfl | rfl | rfl | rfl | rfl | rfl <;> (show (0 : Int) ≤ _; omega)
theorem v17 (x : Kiln × Fire × List Int) (hp : k17.pre x) : V17 x := by
 obtain ⟨k, f, l⟩ := x
 have hb : k.1.length ≤ big := hp
 have e : ref03u_Check (k, f, l) = checkV k f l := rfl
 rw [V17, e]
 dsimp only
 rw [one_fire]
 refine ⟨⟨hb, by show (1 : Nat) ≤ big; simp only [big]; omega⟩, fun h => ?_, fun h => ?_⟩
 ·have h : (!(fire_check (k, l, [f]) == 0)) = true := h
  show (([] : List Int), fire_check (k, l, [f])) = checkV k f l
  rw [checkV, h]; rfl
 have h : (!(fire_check (k, l, [f]) == 0)) = false := h
 have h0 : fire_check (k, l, [f]) = 0 := by simpa using h
 obtain ⟨hk, hf, hl⟩ := check_ok.1 h0
 have K := kiln_iff.1 hk
 have hn := K.len
 have eC : checkV k f l = (badsFrom k f l k.1.length 0, 0) := by rw [checkV, h]; rfl
 rw [eC]
 refine ⟨fun q => ∃ i : Nat, q.2 = (i : Int) ∧ i ≤ k.1.length ∧ q.1.length ≤ i ∧ badsFrom k f l k.1.length 0 = q.1 ++ badsFrom k f l (k.1.length - i) i, fun q => ((k.1.length : Int) - q.2).toNat, ⟨0, rfl, Nat.zero_le _, Nat.le_refl _, rfl⟩, ?_⟩
 rintro ⟨out, i0⟩ ⟨i, g1, g2, g3, g4⟩
 simp only at g1 g3 g4
 subst g1
 refine ⟨fun hi => ?_, fun hi => ?_⟩
 ·have hi : (i : Int) < (k.1.length : Int) := of_decide_eq_true hi
  have hbd : badsFrom k f l (k.1.length - i) i = cond (badAt k f l i) ((i : Int) :: badsFrom k f l (k.1.length - (i + 1)) (i + 1)) (badsFrom k f l (k.1.length - (i + 1)) (i + 1)) := by
   rw [show k.1.length - i = (k.1.length - (i + 1)) + 1 by omega, badsFrom]
  rw [hbd] at g4
  have e2 : (List.replicate 1 (0 : Int)).set 0 (i : Int) = [(i : Int)] := rfl
  have eR : ref03u_Broken (k, f, l, (i : Int)) = fire_stand_broken ((k, f, k.1.getD i ((0, 0), 0, 0)), l) := rfl
  have hnn := brk_nonneg (k, f, k.1.getD i ((0, 0), 0, 0)) l
  rw [e2]
  refine ⟨⟨⟨hk, by show (0 : Int) ≤ (i : Int); omega, hi⟩, hf, hl⟩, fun hv => ⟨roomy_of (by omega) (by omega) ?_, by simp only [Z.in64]; omega, rfl, ⟨i + 1, by simp only; omega, by omega, ?_, ?_⟩, by simp only; omega⟩, fun hv => ⟨by simp only [Z.in64]; omega, rfl, ⟨i + 1, by simp only; omega, by omega, by show out.length ≤ i + 1; omega, ?_⟩, by simp only; omega⟩⟩
  ·show ((out ++ [(i : Int)]).length : Int) ≤ _
   simp only [List.length_append, List.length_singleton]; omega
  ·show (out ++ [(i : Int)]).length ≤ i + 1
   simp only [List.length_append, List.length_singleton]; omega
  ·have hv : 0 < (ref03u_Broken (k, f, l, (i : Int))).1 := of_decide_eq_true hv
   rw [eR] at hv
   have hv : ((fire_stand_broken ((k, f, k.1.getD i ((0, 0), 0, 0)), l)).1 == 0) = false := beq_eq_false_iff_ne.2 (by omega)
   rw [g4, badAt, hv]; simp
  ·have hv : ¬ 0 < (ref03u_Broken (k, f, l, (i : Int))).1 := of_decide_eq_false hv
   rw [eR] at hv
   have hv : ((fire_stand_broken ((k, f, k.1.getD i ((0, 0), 0, 0)), l)).1 == 0) = true := beq_iff_eq.2 (by omega)
   rw [g4, badAt, hv]; rfl
 ·have hi : ¬ (i : Int) < (k.1.length : Int) := of_decide_eq_false hi
  show (out, (0 : Int)) = (badsFrom k f l k.1.length 0, 0)
  rw [g4, show k.1.length - i = 0 by omega, badsFrom, List.append_nil]
theorem v19 (x : Kiln × Fire × (List Int) × Int) (hp : k19.pre x) : V19 x := by
 obtain ⟨k, f, l, place⟩ := x
 have hb : k.1.length ≤ big := hp
 simp only [big] at hb
 have e : ref03u_Why (k, f, l, place) = whyV k f l place := rfl
 rw [V19, e]
 dsimp only
 rw [one_fire]
 refine ⟨⟨by show k.1.length ≤ big; simp only [big]; omega, by show (1 : Nat) ≤ big; simp only [big]; omega⟩, fun h => ?_, fun h => ?_⟩
 ·have h : (!(fire_check (k, l, [f]) == 0)) = true := h
  show ((0 : Int), (0 : Int), fire_check (k, l, [f])) = whyV k f l place
  rw [whyV, h]; rfl
 have h : (!(fire_check (k, l, [f]) == 0)) = false := h
 have h0 : fire_check (k, l, [f]) = 0 := by simpa using h
 obtain ⟨hk, hf, hl⟩ := check_ok.1 h0
 rw [whyV, h, cond_false]
 refine ⟨by simp only [Z.in64]; omega, trivial, fun hw => ?_, fun hw => ?_⟩
 ·have hw : (!inB place 0 ((k.1.length : Int) - 1)) = true := hw
  rw [hw]; rfl
 have hw : (!inB place 0 ((k.1.length : Int) - 1)) = false := hw
 have hpl := inB_iff.1 (not_iff.2.1 hw)
 rw [hw, cond_false]
 have eR : ref03u_Broken (k, f, l, place) = fire_stand_broken ((k, f, k.1.getD place.toNat ((0, 0), 0, 0)), l) := rfl
 refine ⟨⟨⟨hk, hpl.1, by show place < (k.1.length : Int); omega⟩, hf, hl⟩, fun hv => ?_, fun hv => ?_⟩
 ·have hv : ((ref03u_Broken (k, f, l, place)).1 == 0) = true := hv
  rw [eR] at hv
  rw [hv]; rfl
 ·have hv : ((ref03u_Broken (k, f, l, place)).1 == 0) = false := hv
  rw [eR] at hv
  rw [hv]; rfl
theorem bads_len (k : Kiln) (f : Fire) (l : List Int) : ∀ (n i : Nat), (badsFrom k f l n i).length ≤ n
 | 0, _ => Nat.le_refl _
 | n + 1, i => by
  have := bads_len k f l n (i + 1)
  rw [badsFrom]
  cases badAt k f l i with
  | true => simp only [cond_true, List.length_cons]; omega
  | false => simp only [cond_false]; omega
theorem check_len (k : Kiln) (f : Fire) (l : List Int) : (checkV k f l).1.length ≤ k.1.length := by
 unfold checkV
 cases !(fire_check (k, l, [f]) == 0) with
 | true => exact Nat.zero_le _
 | false => exact bads_len k f l _ _
theorem v3 (x : Kiln × Fire × (List Int) × Int × Int) (_ : k3.pre x) : V3 x := by
 obtain ⟨k, f, l, place, set⟩ := x
 refine ⟨fun _ => ⟨trivial, rfl⟩, fun h => ?_⟩
 have h : (decide ((14 : Int) < (k.1.length : Int)) || decide ((50 : Int) < (l.length : Int))) = false := h
 simp only [Bool.or_eq_false_iff, decide_eq_false_iff_not] at h
 have hb : k.1.length ≤ big := by simp only [big]; omega
 have e1 : ref03u_Heat (k, place, set) = fire_Heat (k, place, set) := rfl
 have e2 : ref03u_Check (k, f, l) = fire_Check (k, f, l) := rfl
 have e3 : ref03u_Why (k, f, l, place) = fire_Why (k, f, l, place) := rfl
 refine ⟨trivial, hb, trivial, hb, trivial, hb, fun _ => Nat.le_trans (check_len k f l) hb, fun _ => trivial, ?_⟩
 show _ = true
 dsimp only
 rw [e1, e2, e3]
 have e4 : ref03u_Ints ((fire_Check (k, f, l)).1, (fire_Check (k, f, l)).1) = true := sameL_refl _
 rw [e4]
 simp [law03u_alive]
end Go.Fire
