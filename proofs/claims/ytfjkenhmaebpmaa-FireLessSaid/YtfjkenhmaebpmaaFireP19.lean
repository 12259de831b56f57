/-
  Chapter 3: FirePlan and FireLess: their conditions proved.
-/
import Derived.Test.YtfjkenhmaebpmaaFireP18
set_option linter.all false
set_option maxRecDepth 100000
set_option maxHeartbeats 1000000
set_option linter.unusedVariables false
namespace Go.Fire
open Go Go.Sx
theorem v36 (x : Kiln × List Int) (hp : k36.pre x) : V36 x := by
 obtain ⟨k, l⟩ := x
 obtain ⟨hb1, hb2⟩ : k.1.length ≤ big ∧ l.length ≤ big := hp
 simp only [big] at hb1 hb2
 have eP : ref03u_Places (k, l) = (placesB k l (-1) && decide (0 < (l.length : Int))) := rfl
 rw [V36, eP]
 dsimp only
 refine ⟨fun s => ∃ i : Nat, s = (i : Int) ∧ i ≤ l.length ∧ placesB k l (-1) = placesB k (l.drop i) (prevAt l i), fun s => ((l.length : Int) - s).toNat, ⟨0, rfl, Nat.zero_le _, rfl⟩, ?_⟩
 rintro _ ⟨i, rfl, g1, g3⟩
 refine ⟨fun hd => ?_, fun hd => ?_⟩
 ·have hd : (i : Int) < (l.length : Int) := of_decide_eq_true hd
  obtain ⟨n, hnn⟩ : ∃ n, n = l.getD i 0 := ⟨_, rfl⟩
  have hdr := drop_getD l 0 i (by omega)
  rw [← hnn] at hdr
  rw [hdr, placesB] at g3
  have ei : Int.toNat (i : Int) = i := rfl
  have hc : ((!inB n 0 ((k.1.length : Int) - 1)) || (decide ((0 : Int) < (i : Int)) && decide (n ≤ l.getD ((i : Int) - 1).toNat 0))) = !(inB n 0 ((k.1.length : Int) - 1) && decide (prevAt l i < n)) := by
   cases hin : inB n 0 ((k.1.length : Int) - 1) with
   | false => rfl
   | true =>
    have := inB_iff.1 hin
    cases i with
    | zero =>
     have h1 : prevAt l 0 < n := by show (-1 : Int) < n; omega
     have h2 : decide ((0 : Int) < ((0 : Nat) : Int)) = false := rfl
     rw [decide_eq_true h1, h2]; rfl
    | succ j =>
     have hp : l.getD j 0 = prevAt l (j + 1) := rfl
     rw [show (((j + 1 : Nat) : Int) - 1).toNat = j by omega, decide_eq_true (show (0 : Int) < ((j + 1 : Nat) : Int) by omega), hp]
     by_cases hlt : prevAt l (j + 1) < n
     ·rw [decide_eq_true hlt, decide_eq_false (show ¬ n ≤ prevAt l (j + 1) by omega)]; rfl
     ·rw [decide_eq_false hlt, decide_eq_true (show n ≤ prevAt l (j + 1) by omega)]; rfl
  have er : ref03u_in (n, 0, (k.1.length : Int) - 1) = inB n 0 ((k.1.length : Int) - 1) := rfl
  rw [ei, ← hnn, er, hc]
  refine ⟨⟨by omega, hd⟩, by simp only [Z.in64]; omega, trivial, fun _ => ⟨by omega, hd⟩, fun _ => by simp only [Z.in64]; omega, fun hg => ?_, fun hv => ?_, fun hv => ⟨by simp only [Z.in64]; omega, ⟨i + 1, by omega, by omega, ?_⟩, by dsimp only; omega⟩⟩
  ·have : (0 : Int) < (i : Int) := of_decide_eq_true hg.1
   exact ⟨by omega, by omega⟩
  ·rw [not_iff.1.1 hv, Bool.false_and] at g3
   rw [g3]; rfl
  ·rw [not_iff.2.1 hv, Bool.true_and] at g3
   rw [g3, hnn]; rfl
 ·have hd : ¬ (i : Int) < (l.length : Int) := of_decide_eq_false hd
  rw [List.drop_eq_nil_of_le (by omega), placesB] at g3
  rw [g3, Bool.true_and]
theorem noneBad_cons {b : Int} {r places : List Int} : noneBad (b :: r) places = ((places.all fun p => !(b == p)) && noneBad r places) := rfl
theorem placesB_len {k k' : Kiln} (h : k'.1.length = k.1.length) : ∀ {l : List Int} {prev : Int}, placesB k' l prev = placesB k l prev
 | [], _ => rfl
 | n :: l, prev => by rw [placesB, placesB, h, placesB_len h]
theorem steps_false {k : Kiln} {l : List Int} {i : Nat} (hi : i < l.length) (h : stepAt k l i = false) : stepsB k l = false := by
 cases hs : stepsB k l with
 | false => rfl
 | true => rw [stepsB_iff.1 hs i hi] at h; cases h
theorem v37 (x : (List Int) × Kiln × Fire × List Int) (hp : k37.pre x) : V37 x := by
 obtain ⟨l, k, f, places⟩ := x
 obtain ⟨hk, ⟨hl, hb⟩, hpl⟩ : kilnB k = true ∧ (l.length ≤ 1000 ∧ ∀ n ∈ l, -1000000 ≤ n ∧ n ≤ 1000000) ∧ places.length ≤ big := hp
 have K := kiln_iff.1 hk
 have hst := K.step
 simp only [big] at hpl
 have hat : ∀ i, i < l.length → -1000000 ≤ l.getD i 0 ∧ l.getD i 0 ≤ 1000000 := fun i hi => hb _ (getD_mem l 0 i hi)
 obtain ⟨Bd, hBd⟩ : ∃ Bd, Bd = (fire_Check (k, f, l)).1 := ⟨_, rfl⟩
 have eP : law03u_FirePlan_1 (l, k, f, places) = (stepsB k l && ((fire_Check (k, f, l)).2 == 0 && noneBad Bd places)) := by rw [hBd]; rfl
 have hBl : Bd.length ≤ 8 := by
  have := check_len k f l
  have e : Bd = (checkV k f l).1 := hBd
  have hn := K.len
  rw [e]; omega
 rw [V37, eP]
 dsimp only
 rw [← hBd]
 refine ⟨fun s => ∃ i : Nat, s = (i : Int) ∧ i ≤ l.length ∧ ∀ j, j < i → stepAt k l j = true, fun s => ((l.length : Int) - s).toNat, ⟨0, rfl, Nat.zero_le _, fun j hj => by omega⟩, ?_⟩
 rintro _ ⟨i, rfl, g1, g2⟩
 refine ⟨fun hd => ?_, fun hd => ?_⟩
 ·have hd : (i : Int) < (l.length : Int) := of_decide_eq_true hd
  have ei : Int.toNat (i : Int) = i := rfl
  have ej : Int.toNat ((i : Int) - 1) = i - 1 := by omega
  have a1 := hat i (by omega)
  have a2 := hat (i - 1) (by omega)
  rw [ei, ej]
  refine ⟨⟨by omega, hd⟩, by omega, fun _ => by simp only [Z.in64]; omega, fun h => ?_, fun _ => by simp only [Z.in64]; omega, fun _ => by simp only [Z.in64]; omega, fun h => ?_, fun _ => by simp only [Z.in64]; omega, fun hv => ?_, fun hv => ⟨by simp only [Z.in64]; omega, ⟨i + 1, by omega, by omega, fun j hj => ?_⟩, by dsimp only; omega⟩⟩
  ·have : (0 : Int) < (i : Int) := of_decide_eq_true h.1
   exact ⟨by omega, by omega⟩
  ·have : (0 : Int) < (i : Int) := of_decide_eq_true h.1
   exact ⟨by omega, by omega⟩
  ·have hs : stepAt k l i = false := by unfold stepAt; rw [hv]; rfl
   rw [steps_false (by omega) hs]; rfl
  ·by_cases hji : j < i
   ·exact g2 j hji
   ·have e : j = i := by omega
    subst e
    unfold stepAt; rw [hv]; rfl
 have hd : ¬ (i : Int) < (l.length : Int) := of_decide_eq_false hd
 rw [stepsB_iff.2 fun j hj => g2 j (by omega), Bool.true_and]
 refine ⟨trivial, fun hv => ?_, fun hv => ?_⟩
 ·rw [not_iff.1.1 hv]; rfl
 rw [not_iff.2.1 hv, Bool.true_and]
 refine ⟨fun s => ∃ i : Nat, s = (i : Int) ∧ i ≤ Bd.length ∧ noneBad Bd places = noneBad (Bd.drop i) places, fun s => ((Bd.length : Int) - s).toNat, ⟨0, rfl, Nat.zero_le _, rfl⟩, ?_⟩
 rintro _ ⟨i, rfl, r1, r2⟩
 refine ⟨fun hd => ?_, fun hd => ?_⟩
 ·have hd : (i : Int) < (Bd.length : Int) := of_decide_eq_true hd
  have ei : Int.toNat (i : Int) = i := rfl
  rw [drop_getD Bd 0 i (by omega), noneBad_cons] at r2
  rw [ei]
  refine ⟨⟨by omega, hd⟩, fun s => ∃ j : Nat, s = (j : Int) ∧ j ≤ places.length ∧ (places.all fun p => !(Bd.getD i 0 == p)) = (places.drop j).all fun p => !(Bd.getD i 0 == p), fun s => ((places.length : Int) - s).toNat, ⟨0, rfl, Nat.zero_le _, rfl⟩, ?_⟩
  rintro _ ⟨j, rfl, t1, t2⟩
  have ej : Int.toNat (j : Int) = j := rfl
  rw [ej]
  refine ⟨fun hj => ?_, fun hj => ?_⟩
  ·have hj : (j : Int) < (places.length : Int) := of_decide_eq_true hj
   rw [drop_getD places 0 j (by omega), List.all_cons] at t2
   refine ⟨⟨by omega, hj⟩, fun hv => ?_, fun hv => ⟨by simp only [Z.in64]; omega, ⟨j + 1, by omega, by omega, ?_⟩, by dsimp only; omega⟩⟩
   ·rw [hv, Bool.not_true, Bool.false_and] at t2
    rw [r2, t2]; rfl
   ·rw [hv, Bool.not_false, Bool.true_and] at t2
    exact t2
  ·have hj : ¬ (j : Int) < (places.length : Int) := of_decide_eq_false hj
   rw [List.drop_eq_nil_of_le (by omega), List.all_nil] at t2
   rw [t2, Bool.true_and] at r2
   exact ⟨by simp only [Z.in64]; omega, ⟨i + 1, by omega, by omega, r2⟩, by dsimp only; omega⟩
 ·have hd : ¬ (i : Int) < (Bd.length : Int) := of_decide_eq_false hd
  rw [List.drop_eq_nil_of_le (by omega)] at r2
  rw [r2]; rfl
theorem lexR_fwd : ∀ {a b : List Int}, a.length = b.length → lexR a b → ∃ i, i < a.length ∧ (∀ j, j < i → a.reverse.getD j 0 = b.reverse.getD j 0) ∧ a.reverse.getD i 0 < b.reverse.getD i 0
 | [], [], _, h => h.elim
 | [], y :: b, _, h => h.elim
 | x :: a, [], _, h => h.elim
 | x :: a, y :: b, hl, h => by
  have hl' : a.length = b.length := by simpa using hl
  have ha : ∀ j, j < a.length → (x :: a).reverse.getD j 0 = a.reverse.getD j 0 := fun j hj => by rw [List.reverse_cons, getD_snoc]; simp [hj]
  have hb : ∀ j, j < a.length → (y :: b).reverse.getD j 0 = b.reverse.getD j 0 := fun j hj => by rw [List.reverse_cons, getD_snoc]; simp [← hl', hj]
  rcases h with h | ⟨rfl, h⟩
  ·obtain ⟨i, hi, h1, h2⟩ := lexR_fwd hl' h
   exact ⟨i, by rw [List.length_cons]; omega, fun j hj => by rw [ha j (by omega), hb j (by omega)]; exact h1 j hj, by rw [ha i hi, hb i hi]; exact h2⟩
  ·refine ⟨a.length, by simp, fun j hj => by rw [ha j hj, hb j hj], ?_⟩
   rw [List.reverse_cons, List.reverse_cons, getD_snoc, getD_snoc]
   simpa using h
theorem v9 (x : Kiln × Fire × (List Int) × List Int) (hx : k9.pre x) : V9 x := by
 obtain ⟨k, f, places, by_⟩ := x
 have hby : ∀ b ∈ by_, 0 ≤ b ∧ b ≤ 255 := hx
 have eL : law03u_FirePlan (k, f, places, by_) = true := rfl
 rw [V9, eL]
 dsimp only
 refine ⟨fun _ => ⟨trivial, rfl⟩, fun h => ⟨trivial, fun hv => ?_, fun hv => ?_⟩⟩
 ·rcases plan_cases k f places with e | e | ⟨_, _, _, _, h⟩
  ·rw [e]; exact ⟨fun _ => trivial, rfl⟩
  ·rw [e]; exact ⟨fun _ => trivial, rfl⟩
  ·rcases h with ⟨a, e, _⟩ | ⟨e, _⟩
   ·rw [e] at hv; simp at hv
   ·rw [e] at hv; simp at hv
 simp only [Bool.or_eq_false_iff, decide_eq_false_iff_not] at h
 obtain ⟨⟨h14, hp14⟩, hb50⟩ := h
 obtain ⟨hk, hf, hpl, hne, hL⟩ : kilnB k = true ∧ fireB f = true ∧ placesB k places (-1) = true ∧ places ≠ [] ∧ Least k f (standsOf k f places) (fire_Plan (k, f, places)) := by
  rcases plan_cases k f places with e | e | h
  ·rw [e] at hv; simp at hv
  ·rw [e] at hv; simp at hv
  ·exact h
 have K := kiln_iff.1 hk
 have F := fire_iff.1 hf
 have hst := K.step
 have hn0 : 0 < places.length := List.length_pos_iff.2 hne
 have e1 : ref03u_Kiln k = true := hk
 have e2 : ref03u_Fire f = true := hf
 have e3 : ref03u_Places (k, places) = true := by
  show (placesB k places (-1) && decide (0 < (places.length : Int))) = true
  rw [hpl, decide_eq_true (by omega)]; rfl
 have hB := fun {l : List Int} => bakes_iff (l := l) hk hf hpl hne
 have hW := fun {a : List Int} => way_iff (k := k) (f := f) (l := standsOf k f places) hst.1 (a := a)
 have hbp : ∀ {l : List Int}, l.length ≤ 40 → digits l → law03u_FirePlan_1u_p (l, k, f, places) := fun hl hd => ⟨hk, ⟨Nat.le_trans hl (by omega), fun n hn => by have := hd n hn; omega⟩, by show places.length ≤ big; simp only [big]; omega⟩
 rw [e1, e2, e3]
 have hR : (fire_Plan (k, f, places)).1.length ≤ 40 ∧ digits (fire_Plan (k, f, places)).1 ∧ ((fire_Plan (k, f, places)).2 = 0 → bakesV (fire_Plan (k, f, places)).1 k f places = true) ∧
   ∀ o, bakesV o k f places = true → (fire_Plan (k, f, places)).2 = 0 ∧ digits o ∧ key (fire_Plan (k, f, places)).1.reverse ≤ key o.reverse := by
  rcases hL with ⟨a, e, hane, hva, hga, hal, hmin⟩ | ⟨e, hmin⟩
  ·rw [e]
   have hd := va_digits hst.1 hva
   refine ⟨by simpa using hal, fun y hy => hd y (by simpa using hy), fun _ => hB.2 ⟨by simpa using hane, by simpa using hal, hW.1 hva, by rw [List.reverse_reverse]; exact hga⟩, fun o ho => ?_⟩
   obtain ⟨o1, o2, o3, o4⟩ := hB.1 ho
   have hvo : vaR k f (standsOf k f places) o.reverse := hW.2 (by rw [List.reverse_reverse]; exact o3)
   have hdo := va_digits hst.1 hvo
   exact ⟨rfl, fun y hy => hdo y (by simpa using hy), by rw [List.reverse_reverse]; exact hmin _ hvo o4 (by simpa using o2)⟩
  ·rw [e]
   refine ⟨by simp, fun y hy => (by cases hy), fun h => (by cases h), fun o ho => ?_⟩
   obtain ⟨o1, o2, o3, o4⟩ := hB.1 ho
   rw [hmin o.reverse (hW.2 (by rw [List.reverse_reverse]; exact o3)) (by simpa using o2)] at o4
   cases o4
 obtain ⟨R, hReq⟩ : ∃ R, R = fire_Plan (k, f, places) := ⟨_, rfl⟩
 rw [← hReq] at hR ⊢
 obtain ⟨l, e⟩ := R
 obtain ⟨r1, r2, r3, r4⟩ := hR
 simp only at r1 r2 r3 r4
 dsimp only
 have ebk : ∀ o, law03u_FirePlan_1 (o, k, f, places) = bakesV o k f places := fun o => rfl
 refine ⟨by show k.1.length ≤ 140737488355328; omega, fun _ => trivial, fun _ => ⟨by show k.1.length ≤ big; simp only [big]; omega, by show places.length ≤ big; simp only [big]; omega⟩, fun h => (by cases h), fun _ => ⟨fun _ => hbp r1 r2, fun h => ?_, fun _ => ?_⟩⟩
 ·exfalso
  rw [ebk, Bool.and_eq_true, beq_iff_eq, Bool.or_eq_true, decide_eq_true_eq, Bool.not_eq_true'] at h
  obtain ⟨h1, h2 | h2⟩ := h
  ·omega
  ·rw [r3 h1] at h2; cases h2
 refine ⟨fun s => ∃ i : Nat, s.2.2 = (i : Int) ∧ i ≤ by_.length ∧ (s.1.length ≤ i ∧ s.1.length ≤ 40) ∧ digits s.1 ∧ 0 ≤ s.2.1 ∧ s.2.1 ≤ 2000, fun s => ((by_.length : Int) - s.2.2).toNat, ⟨0, rfl, Nat.zero_le _, ⟨Nat.le_refl _, Nat.zero_le _⟩, fun y hy => (by cases hy), by show (0 : Int) ≤ 0; omega, by show (0 : Int) ≤ 2000; omega⟩, ?_⟩
 rintro ⟨o, at_, i0⟩ ⟨i, rfl, g1, g2, g3, g4, g5⟩
 simp only at g2 g3 g4 g5
 dsimp only
 refine ⟨fun hi => ?_, fun hi => ?_⟩
 ·have hi : (i : Int) < (by_.length : Int) := of_decide_eq_true hi
  have ei : Int.toNat (i : Int) = i := rfl
  have hbi := hby _ (getD_mem by_ 0 i (by omega))
  have ht := tmod_bd hbi.1 (show (0 : Int) < 5 by omega)
  rw [ei]
  obtain ⟨b, hbb⟩ : ∃ b, b = by_.getD i 0 := ⟨_, rfl⟩
  rw [← hbb] at ht hbi ⊢
  have hm := mul_sb (a := k.2.2.2) (A := 2000) (b := Int.tmod b 5 - 2) (B := 2) ⟨by omega, by omega⟩ ⟨by omega, by omega⟩
  rw [Int.mul_comm k.2.2.2 (Int.tmod b 5 - 2)] at hm
  have hd1 : Int.tdiv 2000 k.2.2.2 = 2000 / k.2.2.2 := Int.tdiv_eq_ediv_of_nonneg (by omega)
  have hd2 := Int.ediv_mul_le 2000 (show k.2.2.2 ≠ 0 by omega)
  have hd3 : 0 ≤ 2000 / k.2.2.2 := Int.ediv_nonneg (by omega) (by omega)
  have hd4 := Int.mul_nonneg hd3 (show 0 ≤ k.2.2.2 by omega)
  have hd5 : 2000 / k.2.2.2 ≤ 2000 := Int.ediv_le_self _ (by omega)
  have e1 : ∀ v : Int, (List.replicate 1 (0 : Int)).set 0 v = [v] := fun _ => rfl
  rw [hd1, e1]
  refine ⟨⟨by omega, hi⟩, fun h40 => ?_, fun h40 => ⟨by simp only [Z.in64]; omega, ⟨i + 1, by omega, by omega, by omega, g3, g4, g5⟩, by omega⟩⟩
  have h40 : (i : Int) < 40 := of_decide_eq_true h40
  have hlen : (o ++ [max 0 (min (at_ + (Int.tmod b 5 - 2) * k.2.2.2) (2000 / k.2.2.2 * k.2.2.2))]).length = o.length + 1 := by simp
  refine ⟨by omega, by simp only [Z.in64]; omega, by simp only [Z.in64]; omega, by simp only [Z.in64]; omega, ⟨by omega, by simp only [Z.in64]; omega⟩, by simp only [Z.in64]; omega, roomy_of (by omega) (by omega) (by omega), by simp only [Z.in64]; omega, ⟨i + 1, by omega, by omega, by omega, fun y hy => ?_, by omega, by omega⟩, by omega⟩
  rcases List.mem_append.1 hy with hy | hy
  ·exact g3 y hy
  ·rw [List.mem_singleton.1 hy]; omega
 rw [ebk]
 refine ⟨hbp g2.2 g3, fun _ => ⟨trivial, rfl⟩, fun hv => ?_⟩
 obtain ⟨q0, q1, q2⟩ := r4 o (not_iff.2.1 hv)
 have hdl : digits l.reverse := fun y hy => r2 y (by simpa using hy)
 have hdo : digits o.reverse := fun y hy => q1 y (by simpa using hy)
 have hlen := key_len hdl hdo q2
 simp only [List.length_reverse] at hlen
 subst q0
 refine ⟨fun h => ?_, fun _ => ?_⟩
 ·exfalso
  simp only [Bool.or_eq_true, decide_eq_true_eq] at h
  rcases h with h | h
  ·cases h
  ·omega
 have hfirst : l.length = o.length → l = o ∨ ∃ i, i < l.length ∧ (∀ j, j < i → l.getD j 0 = o.getD j 0) ∧ l.getD i 0 < o.getD i 0 := fun he => by
  rcases key_lex hdl hdo (by simpa using he) q2 with h | h
  ·exact .inl (by have := congrArg List.reverse h; simpa using this)
  ·obtain ⟨i, h1, h2, h3⟩ := lexR_fwd (by simpa using he) h
   simp only [List.reverse_reverse, List.length_reverse] at h1 h2 h3
   exact .inr ⟨i, h1, h2, h3⟩
 refine ⟨fun s => ∃ i : Nat, s = (i : Int) ∧ i ≤ l.length ∧ (l.length = o.length → ∀ j, j < i → l.getD j 0 = o.getD j 0), fun s => ((l.length : Int) - s).toNat, ⟨0, rfl, Nat.zero_le _, fun _ j hj => by omega⟩, ?_⟩
 rintro _ ⟨i, rfl, t1, t2⟩
 have ei : Int.toNat (i : Int) = i := rfl
 rw [ei]
 refine ⟨fun hd => ?_, fun _ => ⟨trivial, rfl⟩⟩
 have hd : (i : Int) < (l.length : Int) := of_decide_eq_true hd
 refine ⟨fun _ => ⟨by omega, hd⟩, fun he => ?_, fun hv => ?_, fun hv => ⟨by simp only [Z.in64]; omega, rfl, ⟨i + 1, by omega, by omega, fun he j hj => ?_⟩, by dsimp only; omega⟩⟩
 ·have he : (l.length : Int) = (o.length : Int) := by simpa using he
  exact ⟨by omega, by omega⟩
 ·simp only [Bool.and_eq_true, beq_iff_eq, Bool.not_eq_true', beq_eq_false_iff_ne] at hv
  obtain ⟨v1, v2⟩ := hv
  have he : l.length = o.length := by omega
  have hlt : l.getD i 0 < o.getD i 0 := by
   rcases hfirst he with h | ⟨i0, h1, h2, h3⟩
   ·rw [h] at v2; exact absurd rfl v2
   ·by_cases hlt : i < i0
    ·exact absurd (h2 i hlt) v2
    ·by_cases hgt : i0 < i
     ·have := t2 he i0 hgt; omega
     ·rw [show i = i0 by omega]; exact h3
  rw [decide_eq_true hlt]
  exact ⟨⟨by omega, hd⟩, ⟨by omega, by omega⟩, fun _ => trivial, rfl⟩
 ·by_cases hji : j < i
  ·exact t2 he j hji
  ·rw [show j = i by omega]
   have h1 : ((l.length : Int) == (o.length : Int)) = true := by rw [he]; exact beq_self_eq_true _
   rw [h1, Bool.true_and, Bool.not_eq_false'] at hv
   simpa using hv
theorem places_less {k : Kiln} : ∀ {l : List Int} {prev : Int} (n : Nat), placesB k l prev = true → placesB k (l.take n ++ l.drop (n + 1)) prev = true
 | [], _, n, _ => by simp [placesB]
 | m :: l, prev, 0, h => by
  have h2 := h
  rw [placesB, Bool.and_eq_true, Bool.and_eq_true, decide_eq_true_eq] at h
  show placesB k l prev = true
  cases l with
  | nil => rfl
  | cons q l =>
   have h3 := h.2
   rw [placesB, Bool.and_eq_true, Bool.and_eq_true, decide_eq_true_eq] at h3 ⊢
   exact ⟨⟨h3.1.1, by omega⟩, h3.2⟩
 | m :: l, prev, n + 1, h => by
  rw [placesB, Bool.and_eq_true] at h
  show placesB k (m :: (l.take n ++ l.drop (n + 1))) prev = true
  rw [placesB, h.1, places_less n h.2]; rfl
theorem v10 (x : Kiln × Fire × (List Int) × Int × Int) (hx : k10.pre x) : V10 x := by
 obtain ⟨k, f, places, w, by_⟩ := x
 obtain ⟨hw, hby⟩ : (0 ≤ w ∧ w ≤ 255) ∧ 0 ≤ by_ ∧ by_ ≤ 255 := hx
 have eL : law03u_FireLess (k, f, places, w, by_) = true := rfl
 have ePl : ref03u_Places (k, places) = (placesB k places (-1) && decide (0 < (places.length : Int))) := rfl
 rw [V10, eL]
 dsimp only
 refine ⟨fun _ => ⟨trivial, rfl⟩, fun h => ?_⟩
 simp only [Bool.or_eq_false_iff, decide_eq_false_iff_not] at h
 obtain ⟨h14, hp14⟩ := h
 refine ⟨trivial, fun _ => ⟨by show k.1.length ≤ big; simp only [big]; omega, by show places.length ≤ big; simp only [big]; omega⟩, fun hv => ?_, fun hv => ?_⟩
 ·rcases plan_cases k f places with e | e | ⟨_, _, h3, h4, h⟩
  ·rw [e]; exact ⟨fun _ => trivial, rfl⟩
  ·rw [e]; exact ⟨fun _ => trivial, rfl⟩
  ·have hn0 : 0 < places.length := List.length_pos_iff.2 h4
   rcases h with ⟨a, e, _⟩ | ⟨e, _⟩
   ·rw [e, ePl, h3, decide_eq_true (show (0 : Int) < (places.length : Int) by omega)] at hv; simp at hv
   ·rw [e]; exact ⟨fun _ => trivial, rfl⟩
 simp only [Bool.or_eq_false_iff, Bool.not_eq_false'] at hv
 obtain ⟨hv0, _⟩ := hv
 obtain ⟨hk, hf, hpl, hne, hL⟩ : kilnB k = true ∧ fireB f = true ∧ placesB k places (-1) = true ∧ places ≠ [] ∧ Least k f (standsOf k f places) (fire_Plan (k, f, places)) := by
  rcases plan_cases k f places with e | e | h
  ·rw [e] at hv0; simp at hv0
  ·rw [e] at hv0; simp at hv0
  ·exact h
 have K := kiln_iff.1 hk
 have F := fire_iff.1 hf
 have hst := K.step
 have hE := K.err
 have hRm := K.ramp
 have h00 : (fire_Plan (k, f, places)).2 = 0 := by simpa using hv0
 have ht := tmod_bd hby.1 (show (0 : Int) < 20 by omega)
 have hgen : ∀ (k' : Kiln) (f' : Fire) (places' : List Int), kilnB k' = true → fireB f' = true → placesB k' places' (-1) = true → places' ≠ [] → Looser k f (standsOf k f places) k' f' (standsOf k' f' places') →
   (fire_Plan (k', f', places')).2 = 0 ∧ (fire_Plan (k', f', places')).1.length ≤ (fire_Plan (k, f, places)).1.length := fun k' f' places' h1 h2 h3 h4 hlo => by
  have hp' : fire_Plan (k', f', places') = searchV k' f' (standsOf k' f' places') 600 (startV k' f' (standsOf k' f' places')) := by
   have hn0 : 0 < places'.length := List.length_pos_iff.2 h4
   show planV k' f' places' = _
   rw [planV, h1, h2, h3, show ((places'.length : Int) == 0) = false by rw [beq_eq_false_iff_ne]; omega]; rfl
  have K' := kiln_iff.1 h1
  have F' := fire_iff.1 h2
  have hl' : Least k' f' (standsOf k' f' places') (fire_Plan (k', f', places')) := by rw [hp']; exact plan_least K'.step.1 F'.2.1
  exact looser_plan hst.1 F.2.1.1 hlo hL hl' h00
 have hplace : ∀ n ∈ places, placeB (k.1.getD n.toNat noPlace) = true := fun n hn => by
  have hr := places_in hpl n hn
  exact K.place _ (getD_mem' k.1 _ n hr.1 hr.2)
 have A := hgen (k.1, max 0 (k.2.1 - Int.tmod by_ 20), k.2.2) f places (kiln_iff.2 { K with err := by dsimp only; omega }) hf (by refine Eq.trans (placesB_len (k := k) ?_) hpl; rfl) hne
  {step := rfl, ramp := Int.le_refl _, cool := rfl, soak := rfl, hold := rfl, top := Int.le_refl _, rise := Int.le_refl _, fall := Int.le_refl _, at_ := fun s' hs' => by
    obtain ⟨n, hn, rfl⟩ := mem_stands.1 hs'
    exact ⟨rfl, standAt k f n, mem_stands.2 ⟨n, hn, rfl⟩, rfl, rfl, ⟨by show 0 ≤ max 0 (k.2.1 - Int.tmod by_ 20); omega, by show max 0 (k.2.1 - Int.tmod by_ 20) ≤ k.2.1; omega⟩, hplace n hn⟩ }
 have B := hgen (k.1, k.2.1, min 2000 (k.2.2.1 + by_), k.2.2.2) f places (kiln_iff.2 { K with ramp := by dsimp only; omega }) hf (by refine Eq.trans (placesB_len (k := k) ?_) hpl; rfl) hne
  {step := rfl, ramp := by show k.2.2.1 ≤ min 2000 (k.2.2.1 + by_); omega, cool := rfl, soak := rfl, hold := rfl, top := Int.le_refl _, rise := Int.le_refl _, fall := Int.le_refl _, at_ := fun s' hs' => by
    obtain ⟨n, hn, rfl⟩ := mem_stands.1 hs'
    exact ⟨rfl, standAt k f n, mem_stands.2 ⟨n, hn, rfl⟩, rfl, rfl, ⟨hE.1, Int.le_refl _⟩, hplace n hn⟩ }
 have C := hgen k (f.1, f.2.1, min 4000 (f.2.2.1 + by_), f.2.2.2.1, min 4000 (f.2.2.2.2.1 + by_), min 4000 (f.2.2.2.2.2 + by_)) places hk (fire_iff.2 (by dsimp only; omega)) hpl hne
  {step := rfl, ramp := Int.le_refl _, cool := rfl, soak := rfl, hold := rfl, top := by dsimp only; omega, rise := by dsimp only; omega, fall := by dsimp only; omega, at_ := fun s' hs' => by
    obtain ⟨n, hn, rfl⟩ := mem_stands.1 hs'
    exact ⟨rfl, standAt k f n, mem_stands.2 ⟨n, hn, rfl⟩, rfl, rfl, ⟨hE.1, Int.le_refl _⟩, hplace n hn⟩ }
 refine ⟨by omega, by simp only [Z.in64]; omega, by simp only [Z.in64]; omega, by simp only [Z.in64]; omega, by simp only [Z.in64]; omega, by simp only [Z.in64]; omega, trivial, trivial, trivial, fun h => ?_, fun _ => ⟨fun _ => ⟨trivial, rfl⟩, fun h2 => ?_⟩⟩
 ·exfalso
  rw [A.1, B.1, C.1] at h
  have a2 := A.2
  have b2 := B.2
  have c2 := C.2
  simp only [Bool.or_eq_true, decide_eq_true_eq] at h
  rcases h with ((((h | h) | h) | h) | h) | h
  ·cases h
  ·cases h
  ·cases h
  ·omega
  ·omega
  ·omega
 have h2 : ¬ (places.length : Int) < 2 := of_decide_eq_false h2
 have hm := tmod_bd hw.1 (show (0 : Int) < (places.length : Int) by omega)
 obtain ⟨n, hn⟩ : ∃ n : Nat, Int.tmod w (places.length : Int) = (n : Int) := ⟨(Int.tmod w (places.length : Int)).toNat, by omega⟩
 rw [hn] at hm ⊢
 have en : Int.toNat (n : Int) = n := rfl
 have en1 : Int.toNat ((n : Int) + 1) = n + 1 := by omega
 have er : (List.replicate 0 (0 : Int)) ++ places.take n = places.take n := rfl
 rw [en, en1, er]
 have hlen : (places.take n ++ places.drop (n + 1)).length = places.length - 1 := by
  rw [List.length_append, List.length_take, List.length_drop]; omega
 have D := hgen k f (places.take n ++ places.drop (n + 1)) hk hf (places_less n hpl) (fun e => by rw [e] at hlen; simp at hlen; omega)
  {step := rfl, ramp := Int.le_refl _, cool := rfl, soak := rfl, hold := rfl, top := Int.le_refl _, rise := Int.le_refl _, fall := Int.le_refl _, at_ := fun s' hs' => by
    obtain ⟨m, hm, rfl⟩ := mem_stands.1 hs'
    have hm : m ∈ places := by
     rcases List.mem_append.1 hm with h | h
     ·exact List.mem_of_mem_take h
     ·exact List.mem_of_mem_drop h
    exact ⟨rfl, standAt k f m, mem_stands.2 ⟨m, hm, rfl⟩, rfl, rfl, ⟨hE.1, Int.le_refl _⟩, hplace m hm⟩ }
 rw [D.1, decide_eq_true (show ((fire_Plan (k, f, places.take n ++ places.drop (n + 1))).1.length : Int) ≤ ((fire_Plan (k, f, places)).1.length : Int) by have := D.2; omega)]
 refine ⟨by omega, ⟨by omega, by omega⟩, roomy_of (by omega) (by omega) ?_, by simp only [Z.in64]; omega, ⟨by omega, by omega⟩, roomy_of (by omega) (by omega) (by omega), trivial, fun _ => trivial, rfl⟩
 rw [List.length_take]; omega
end Go.Fire
