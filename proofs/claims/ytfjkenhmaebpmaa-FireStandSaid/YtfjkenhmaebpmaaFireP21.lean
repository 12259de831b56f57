/-
  Chapter 3: FireStand: its condition proved.
-/
import Derived.Test.YtfjkenhmaebpmaaFireP20
import Derived.Test.YtfjkenhmaebpmaaFireP14
import Derived.Test.YtfjkenhmaebpmaaFireAuto6
set_option linter.all false
set_option maxRecDepth 100000
set_option maxHeartbeats 1000000
set_option linter.unusedVariables false
namespace Go.Fire
open Go Go.Sx
theorem tabs_ok6 : TabsOk Go.Proofs.Try.prog T6 := by
 refine ⟨by kernel_rfl, fun p hp => ?_⟩
 simp only [T6, List.mem_cons, List.not_mem_nil, or_false] at hp
 rcases hp with rfl | rfl <;>
  exact ⟨by kernel_rfl, deep_keyed (by kernel_rfl) (of_decide_eq_true (by kernel_rfl)) (by kernel_rfl) (by kernel_rfl), by kernel_rfl⟩
theorem v38 (x : Int × Int × Kiln × (List Fire) × List Int) (hp : k38.pre x) : V38 x := ⟨hp, trivial, rfl⟩
theorem v39 (x : (List Int) × Kiln × Fun (Int × Int) Bool) (hp : k39.pre x) : V39 x := by
 obtain ⟨s, k, G⟩ := x
 obtain ⟨hn, hs, hG⟩ : k.1.length ≤ 8 ∧ s.length ≤ 8 ∧ ∀ i p, (0 ≤ i ∧ i < (s.length : Int)) → G.pre (i, p) := hp
 obtain ⟨F, hF⟩ : ∃ F : Int → Int → Bool, F = fun i p => G.val (i, p) := ⟨_, rfl⟩
 have eV : law03u_FireStand_2 (s, k, G) = standsGo k.1.length F s 0 0 0 := by rw [hF]; rfl
 have eF : ∀ i p, G.val (i, p) = F i p := fun i p => by rw [hF]
 rw [V39, eV]
 dsimp only
 refine ⟨fun q => ∃ i : Nat, q.2.2 = (i : Int) ∧ i ≤ s.length ∧ (0 ≤ q.1 ∧ q.1 ≤ (i : Int)) ∧ (0 ≤ q.2.1 ∧ q.2.1 < 256) ∧ standsGo k.1.length F s 0 0 0 = standsGo k.1.length F (s.drop i) (i : Int) q.1 q.2.1, fun q => ((s.length : Int) - q.2.2).toNat,
  ⟨0, rfl, Nat.zero_le _, ⟨by show (0 : Int) ≤ 0; omega, by show (0 : Int) ≤ 0; omega⟩, ⟨by show (0 : Int) ≤ 0; omega, by show (0 : Int) < 256; omega⟩, rfl⟩, ?_⟩
 rintro ⟨n, t, i0⟩ ⟨i, rfl, g1, g2, g3, g4⟩
 simp only at g2 g3 g4
 have ei : Int.toNat (i : Int) = i := rfl
 dsimp only
 rw [ei]
 refine ⟨fun hd => ?_, fun hd => ?_⟩
 ·have hd : (i : Int) < (s.length : Int) := of_decide_eq_true hd
  rw [drop_getD s 0 i (by omega), standsGo] at g4
  obtain ⟨p, hpp⟩ : ∃ p, p = s.getD i 0 := ⟨_, rfl⟩
  rw [← hpp] at g4 ⊢
  refine ⟨⟨by omega, hd⟩, fun hv => ⟨by simp only [Z.in64]; omega, ⟨i + 1, by omega, by omega, by omega, g3, ?_⟩, by omega⟩, fun hv => ⟨fun hr => ?_, fun hr => ⟨?_, by omega⟩, fun hr => hG i p ⟨by omega, hd⟩, fun hw => ?_, fun hw => ?_⟩⟩
  ·rw [hv, cond_true] at g4; exact g4
  ·simp only [Bool.or_eq_false_iff, decide_eq_false_iff_not] at hr
   omega
  ·show (0 : Int) ≤ Int.fdiv t (2 ^ p.toNat)
   rw [Int.fdiv_eq_ediv_of_nonneg _ (Int.le_of_lt (Int.pow_pos (by omega)))]
   exact Int.ediv_nonneg g3.1 (Int.le_of_lt (Int.pow_pos (by omega)))
  ·have hw : (((decide (p < 0) || decide ((k.1.length : Int) ≤ p)) || takenB t p) || !F (i : Int) p) = true := by rw [← eF]; exact hw
   rw [hv, hw] at g4; exact g4.symm
  ·have hw : (((decide (p < 0) || decide ((k.1.length : Int) ≤ p)) || takenB t p) || !F (i : Int) p) = false := by rw [← eF]; exact hw
   rw [hv, hw] at g4
   simp only [Bool.or_eq_false_iff, decide_eq_false_iff_not] at hw
   have hpb : 0 ≤ p ∧ p < 8 := by omega
   have bb := bit_in64 hpb
   exact ⟨⟨⟨by omega, by omega⟩, bb.2⟩, ⟨g3.1, bb.1⟩, by simp only [Z.in64]; omega, by simp only [Z.in64]; omega, ⟨i + 1, by omega, by omega, by omega, take_bd g3 hpb, g4⟩, by omega⟩
 ·have hd : ¬ (i : Int) < (s.length : Int) := of_decide_eq_false hd
  rw [List.drop_eq_nil_of_le (by omega), standsGo] at g4
  exact g4.symm
theorem fold_ext {f g : Int → Nat → Int} : ∀ {r : List Nat} {acc : Int}, (∀ acc, ∀ p ∈ r, f acc p = g acc p) → r.foldl f acc = r.foldl g acc
 | [], _, _ => rfl
 | p :: r, acc, h => by
  rw [List.foldl_cons, List.foldl_cons, h acc p List.mem_cons_self]
  exact fold_ext fun acc q hq => h acc q (List.mem_cons_of_mem _ hq)
section link
variable {k : Kiln} {l : List Fire} {prog : List Int}
theorem can_link (hk : kilnB k = true) (hf : l.all fireB = true) (hq : progB prog = true) {i p : Nat} (hi : i < l.length) (hp : p < k.1.length) (t : Int) :
  (canOf k l prog).val ((i : Int), (p : Int), t) = okL (canF k prog) (l.getD i (0, 0, 0, 0, 0, 0)) t p := by
 have hfi : fireB (l.getD i (0, 0, 0, 0, 0, 0)) = true := List.all_eq_true.1 hf _ (getD_mem l _ i hi)
 have e : canF k prog (l.getD i (0, 0, 0, 0, 0, 0)) (p : Int) = ((fire_stand_broken (standAt k (l.getD i (0, 0, 0, 0, 0, 0)) (p : Int), prog)).1 == 0) := by
  unfold canF
  rw [why_eq hk hfi hq (by omega) (by omega)]
  cases ((fire_stand_broken (standAt k (l.getD i (0, 0, 0, 0, 0, 0)) (p : Int), prog)).1 == 0) <;> rfl
 unfold okL
 rw [e]
 show cond (takenB t (p : Int)) false ((fire_stand_broken (standAt k (l.getD i (0, 0, 0, 0, 0, 0)) (p : Int), prog)).1 == 0) = _
 cases takenB t (p : Int) <;> rfl
theorem many_link (hk : kilnB k = true) (hf : l.all fireB = true) (hq : progB prog = true) : ∀ (n : Nat), n ≤ l.length → ∀ t, manyG (canOf k l prog).val k.1.length l.length n t = manyL k.1.length (canF k prog) (l.drop (l.length - n)) t
 | 0, _, t => by rw [Nat.sub_zero, List.drop_length]; rfl
 | n + 1, hn, t => by
  have hi : l.length - (n + 1) < l.length := by omega
  have e1 : (l.length : Int) - ((n : Int) + 1) = ((l.length - (n + 1) : Nat) : Int) := by omega
  rw [drop_getD l (0, 0, 0, 0, 0, 0) _ hi, show l.length - (n + 1) + 1 = l.length - n by omega, manyG, manyL, many_link hk hf hq n (by omega) t]
  refine fold_ext fun acc p hp => ?_
  have hp := List.mem_range.1 hp
  rw [manyStep, stepL, e1, can_link hk hf hq hi hp, many_link hk hf hq n (by omega)]
theorem manyV_link (hk : kilnB k = true) (hf : l.all fireB = true) (hq : progB prog = true) {i : Nat} (hi : i ≤ l.length) (t : Int) : manyV (canOf k l prog).val k.1.length l.length (i : Int) t = manyL k.1.length (canF k prog) (l.drop i) t := by
 rw [manyV, show ((l.length : Int) - (i : Int)).toNat = l.length - i by omega, many_link hk hf hq _ (by omega), show l.length - (l.length - i) = i by omega]
theorem place_link (hk : kilnB k = true) (hf : l.all fireB = true) (hq : progB prog = true) {i : Nat} (hi : i < l.length) (t : Int) : ∀ (n p : Nat), p + n ≤ k.1.length →
  placeAt (canOf k l prog).val k.1.length l.length (i : Int) t n p = placeL k.1.length (canF k prog) (l.getD i (0, 0, 0, 0, 0, 0)) (l.drop (i + 1)) t n p
 | 0, _, _ => rfl
 | n + 1, p, h => by
  have e1 : (i : Int) + 1 = ((i + 1 : Nat) : Int) := by omega
  rw [placeAt, placeL, can_link hk hf hq hi (by omega), e1, manyV_link hk hf hq (by omega), manyV_link hk hf hq (by omega), drop_getD l (0, 0, 0, 0, 0, 0) i hi, place_link hk hf hq hi t n (p + 1) (by omega)]
theorem stand_link (hk : kilnB k = true) (hf : l.all fireB = true) (hq : progB prog = true) : ∀ (n i : Nat) (t : Int), i + n = l.length → standGo (canOf k l prog).val k.1.length l.length n i t = standL k.1.length (canF k prog) (l.drop i) t
 | 0, i, t, h => by rw [List.drop_eq_nil_of_le (by omega)]; rfl
 | n + 1, i, t, h => by
  rw [drop_getD l (0, 0, 0, 0, 0, 0) i (by omega), standGo, standL, place_link hk hf hq (by omega) t _ _ (by omega), stand_link hk hf hq n (i + 1) _ (by omega)]
theorem standV_ok (hc : fire_check (k, prog, l) = 0) : fire_Stand (k, l, prog) = (standL k.1.length (canF k prog) l 0, 0) := by
 obtain ⟨hk, hf, hq, _⟩ := checks_ok hc
 show standV k l prog = _
 rw [standV, hc, stand_link hk hf hq _ _ _ (by omega)]; rfl
theorem cnt_ge : ∀ (np : Nat) (F : Fire → Int → Bool) (l : List Fire) (s : List Int) (t : Int), -1 ≤ cntL np F l s t
 | _, _, [], [], _ => by show (-1 : Int) ≤ 0; omega
 | _, _, [], _ :: _, _ => by show (-1 : Int) ≤ 0; omega
 | _, _, _ :: _, [], _ => by show (-1 : Int) ≤ 0; omega
 | np, F, f :: l, p :: r, t => by
  have h1 := cnt_ge np F l r t
  have h2 := cnt_ge np F l r (takeV t p)
  rw [cntL]
  cases (p == -1) with
  | true => exact h1
  | false =>
   cases (((decide (p < 0) || decide ((np : Int) ≤ p)) || takenB t p) || !F f p) with
   | true => exact Int.le_refl _
   | false =>
    cases decide (cntL np F l r (takeV t p) < 0) with
    | true => exact Int.le_refl _
    | false => simp only [cond_false]; omega
theorem stands_link {np : Nat} {F : Fire → Int → Bool} (l0 : List Fire) : ∀ {s : List Int} {i : Nat} {n t : Int}, i + s.length = l0.length →
  standsGo np (fun i p => F (l0.getD i.toNat (0, 0, 0, 0, 0, 0)) p) s (i : Int) n t = cond (decide (cntL np F (l0.drop i) s t < 0)) (-1) (n + cntL np F (l0.drop i) s t)
 | [], i, n, t, h => by
  simp only [List.length_nil] at h
  rw [List.drop_eq_nil_of_le (by omega), standsGo]
  show n = cond (decide ((0 : Int) < 0)) (-1) (n + 0)
  simp
 | p :: r, i, n, t, h => by
  rw [List.length_cons] at h
  have e1 : (i : Int) + 1 = ((i + 1 : Nat) : Int) := by omega
  rw [drop_getD l0 (0, 0, 0, 0, 0, 0) i (by omega), standsGo, cntL, e1]
  cases (p == -1) with
  | true => exact stands_link l0 (by omega)
  | false =>
   simp only [cond_false]
   rw [show Int.toNat (i : Int) = i from rfl]
   cases (((decide (p < 0) || decide ((np : Int) ≤ p)) || takenB t p) || !F (l0.getD i (0, 0, 0, 0, 0, 0)) p) with
   | true => rfl
   | false =>
    simp only [cond_false]
    rw [stands_link l0 (by omega)]
    have h2 := cnt_ge np F (l0.drop (i + 1)) r (takeV t p)
    cases hd : decide (cntL np F (l0.drop (i + 1)) r (takeV t p) < 0) with
    | true => rfl
    | false =>
     have := of_decide_eq_false hd
     simp only [cond_false]
     rw [decide_eq_false (by omega)]; simp only [cond_false]; omega
end link
abbrev canG (k : Kiln) (l : List Fire) (prog : List Int) : Fun (Int × Int) Bool := ⟨fun x => law03u_FireStand_1u_p (x.1, x.2, k, l, prog), fun x => law03u_FireStand_1 (x.1, x.2, k, l, prog)⟩
theorem stands_eq {k : Kiln} {l : List Fire} {prog s : List Int} (h : s.length = l.length) : law03u_FireStand_2 (s, k, canG k l prog) = cond (decide (cntL k.1.length (canF k prog) l s 0 < 0)) (-1) (cntL k.1.length (canF k prog) l s 0) := by
 have e := stands_link (np := k.1.length) (F := canF k prog) l (s := s) (i := 0) (n := 0) (t := 0) (by omega)
 rw [List.drop_zero, Int.zero_add] at e
 rw [← e]; rfl
theorem turned_len {l : List Fire} {n : Nat} : (l.drop n ++ l.take n).length = l.length := by
 rw [List.length_append, List.length_drop, List.length_take]; omega
def tail11 (k : Kiln) (l : List Fire) (prog by_ o : List Int) : Prop := Z.LoopP (X := (Prod (List (Prod Int (Prod Int (Prod Int (Prod Int (Prod Int Int)))))) Int)) (([], 0)) (fun s85 K85 => (((decide ((s85.2 : Int) < (l.length : Int)) = true) → (((0 : Int) ≤ 0 ∧ (0 : Int) < (by_.length : Int)) ∧ (Z.in64 (s85.2 + (by_.getD (Int.toNat 0) 0)) ∧ ((((l.length : Int) : Int) ≠ 0) ∧ (((0 : Int) ≤ (Int.tmod (s85.2 + (by_.getD (Int.toNat 0) 0)) (l.length : Int)) ∧ ((Int.tmod (s85.2 + (by_.getD (Int.toNat 0) 0)) (l.length : Int)) : Int) < (l.length : Int)) ∧ (Z.roomy 6 ((s85.1 ++ ((List.replicate 1 (0, 0, 0, 0, 0, 0)).set 0 (l.getD (Int.toNat (Int.tmod (s85.2 + (by_.getD (Int.toNat 0) 0)) (l.length : Int))) (0, 0, 0, 0, 0, 0)))).length : Int) ∧ (Z.in64 (s85.2 + 1) ∧ (((o : (List Int)) = o) ∧ ((((⟨(fun x86 => (law03u_FireStand_1u_p (x86.1, x86.2, k, l, prog))), (fun x87 => (law03u_FireStand_1 (x87.1, x87.2, k, l, prog)))⟩ : Go.Sx.Fun ((Prod Int Int)) (Bool)) : (Go.Sx.Fun (Prod Int Int) Bool)) = (⟨(fun x88 => (law03u_FireStand_1u_p (x88.1, x88.2, k, l, prog))), (fun x89 => (law03u_FireStand_1 (x89.1, x89.2, k, l, prog)))⟩ : Go.Sx.Fun ((Prod Int Int)) (Bool))) ∧ (K85 ((s85.1 ++ ((List.replicate 1 (0, 0, 0, 0, 0, 0)).set 0 (l.getD (Int.toNat (Int.tmod (s85.2 + (by_.getD (Int.toNat 0) 0)) (l.length : Int))) (0, 0, 0, 0, 0, 0)))), (s85.2 + 1)))))))))))) ∧ ((decide ((s85.2 : Int) < (l.length : Int)) = false) → ((fire_Stand_p (k, s85.1, prog)) ∧ Z.LoopP (X := (Prod Int Int)) ((0, 0)) (fun s90 K90 => (((decide ((s90.2 : Int) < (((fire_Stand (k, s85.1, prog)).1).length : Int)) = true) → (((0 : Int) ≤ s90.2 ∧ (s90.2 : Int) < (((fire_Stand (k, s85.1, prog)).1).length : Int)) ∧ ((((!((((fire_Stand (k, s85.1, prog)).1).getD (Int.toNat s90.2) 0) == (-1))) = true) → (Z.in64 (s90.1 + 1) ∧ (Z.in64 (s90.2 + 1) ∧ (((s85.1 : (List (Prod Int (Prod Int (Prod Int (Prod Int (Prod Int Int))))))) = s85.1) ∧ (((o : (List Int)) = o) ∧ ((((⟨(fun x91 => (law03u_FireStand_1u_p (x91.1, x91.2, k, l, prog))), (fun x92 => (law03u_FireStand_1 (x92.1, x92.2, k, l, prog)))⟩ : Go.Sx.Fun ((Prod Int Int)) (Bool)) : (Go.Sx.Fun (Prod Int Int) Bool)) = (⟨(fun x93 => (law03u_FireStand_1u_p (x93.1, x93.2, k, l, prog))), (fun x94 => (law03u_FireStand_1 (x94.1, x94.2, k, l, prog)))⟩ : Go.Sx.Fun ((Prod Int Int)) (Bool))) ∧ (K90 ((s90.1 + 1), (s90.2 + 1))))))))) ∧ (((!((((fire_Stand (k, s85.1, prog)).1).getD (Int.toNat s90.2) 0) == (-1))) = false) → (Z.in64 (s90.2 + 1) ∧ (((s85.1 : (List (Prod Int (Prod Int (Prod Int (Prod Int (Prod Int Int))))))) = s85.1) ∧ (((o : (List Int)) = o) ∧ ((((⟨(fun x95 => (law03u_FireStand_1u_p (x95.1, x95.2, k, l, prog))), (fun x96 => (law03u_FireStand_1 (x96.1, x96.2, k, l, prog)))⟩ : Go.Sx.Fun ((Prod Int Int)) (Bool)) : (Go.Sx.Fun (Prod Int Int) Bool)) = (⟨(fun x97 => (law03u_FireStand_1u_p (x97.1, x97.2, k, l, prog))), (fun x98 => (law03u_FireStand_1 (x98.1, x98.2, k, l, prog)))⟩ : Go.Sx.Fun ((Prod Int Int)) (Bool))) ∧ (K90 (s90.1, (s90.2 + 1))))))))))) ∧ ((decide ((s90.2 : Int) < (((fire_Stand (k, s85.1, prog)).1).length : Int)) = false) → ((((((fire_Stand (k, s85.1, prog)).2 == 0) && (s90.1 == (law03u_FireStand_2 ((fire_Stand (k, l, prog)).1, k, (⟨(fun x99 => (law03u_FireStand_1u_p (x99.1, x99.2, k, l, prog))), (fun x100 => (law03u_FireStand_1 (x100.1, x100.2, k, l, prog)))⟩ : Go.Sx.Fun ((Prod Int Int)) (Bool)))))) = true) → (law03u_alive_p ())) ∧ ((((((fire_Stand (k, s85.1, prog)).2 == 0) && (s90.1 == (law03u_FireStand_2 ((fire_Stand (k, l, prog)).1, k, (⟨(fun x101 => (law03u_FireStand_1u_p (x101.1, x101.2, k, l, prog))), (fun x102 => (law03u_FireStand_1 (x102.1, x102.2, k, l, prog)))⟩ : Go.Sx.Fun ((Prod Int Int)) (Bool)))))) && (law03u_alive ())) : Bool) = true)))))))))
def turnAt (l : List Fire) (b i : Nat) : Fire := l.getD ((i + b) % l.length) (0, 0, 0, 0, 0, 0)
theorem turn_eq {l : List Fire} {b : Nat} (hl : 0 < l.length) : (List.range l.length).map (turnAt l b) = l.drop (b % l.length) ++ l.take (b % l.length) := by
 have hb := Nat.mod_lt b hl
 apply List.ext_getElem
 ·rw [turned_len]; simp
 intro i h1 h2
 have hi : i < l.length := by simpa using h1
 rw [List.getElem_map, List.getElem_range, turnAt, List.getElem_append]
 have e : (i + b) % l.length = (i + b % l.length) % l.length := by rw [Nat.add_mod_mod]
 rw [e]
 split
 ·rename_i h
  rw [List.length_drop] at h
  rw [Nat.mod_eq_of_lt (by omega), List.getElem_drop]
  have : i + b % l.length < l.length := by omega
  simp [List.getD, this, Nat.add_comm]
 ·rename_i h
  rw [List.length_drop] at h
  have e2 : (i + b % l.length) % l.length = i + b % l.length - l.length := by
   rw [Nat.mod_eq_sub_mod (by omega), Nat.mod_eq_of_lt (by omega)]
  rw [e2, List.getElem_take]
  have e3 : i - (l.drop (b % l.length)).length = i + b % l.length - l.length := by rw [List.length_drop]; omega
  have : i + b % l.length - l.length < l.length := by omega
  simp [List.getD, this]
  congr 1; omega
theorem tail_ok {k : Kiln} {l : List Fire} {prog by_ o : List Int} (hc : fire_check (k, prog, l) = 0) (hb : ∀ b ∈ by_, 0 ≤ b ∧ b ≤ 255) (hb0 : 0 < by_.length) : tail11 k l prog by_ o := by
 obtain ⟨hk, hf, hq, hl8⟩ := checks_ok hc
 obtain ⟨b, hbb⟩ : ∃ b : Nat, by_.getD (Int.toNat 0) 0 = (b : Int) := ⟨(by_.getD (Int.toNat 0) 0).toNat, (Int.toNat_of_nonneg (hb _ (getD_mem by_ 0 0 hb0)).1).symm⟩
 have hb255 : (b : Int) ≤ 255 := by rw [← hbb]; exact (hb _ (getD_mem by_ 0 0 hb0)).2
 unfold tail11
 rw [hbb]
 refine ⟨fun s => ∃ i : Nat, s.2 = (i : Int) ∧ i ≤ l.length ∧ s.1 = (List.range i).map (turnAt l b), fun s => ((l.length : Int) - s.2).toNat, ⟨0, rfl, Nat.zero_le _, rfl⟩, ?_⟩
 rintro ⟨T, i0⟩ ⟨i, rfl, g1, g2⟩
 simp only at g2
 dsimp only
 refine ⟨fun hd => ?_, fun hd => ?_⟩
 ·have hd : (i : Int) < (l.length : Int) := of_decide_eq_true hd
  have ht := tmod_bd (a := (i : Int) + (b : Int)) (n := (l.length : Int)) (by omega) (by omega)
  have em : Int.toNat (Int.tmod ((i : Int) + (b : Int)) (l.length : Int)) = (i + b) % l.length := by
   have : Int.tmod ((i : Int) + (b : Int)) (l.length : Int) = (((i + b) % l.length : Nat) : Int) := by
    rw [Int.tmod_eq_emod_of_nonneg (by omega)]; simp
   rw [this]; rfl
  have e1 : ∀ v : Fire, (List.replicate 1 (((0 : Int), (0 : Int), (0 : Int), (0 : Int), (0 : Int), (0 : Int)) : Fire)).set 0 v = [v] := fun _ => rfl
  rw [em, e1]
  refine ⟨⟨by omega, by omega⟩, by simp only [Z.in64]; omega, by omega, ht, roomy_of (by omega) (by omega) ?_, by simp only [Z.in64]; omega, rfl, rfl, ⟨i + 1, by omega, by omega, ?_⟩, by omega⟩
  ·rw [g2]; simp only [List.length_append, List.length_map, List.length_range, List.length_singleton]; omega
  ·rw [g2, List.range_succ, List.map_append]; rfl
 have hd : ¬ (i : Int) < (l.length : Int) := of_decide_eq_false hd
 have hi : i = l.length := by omega
 rw [hi] at g2
 subst g2
 obtain ⟨T, hT⟩ : ∃ T, T = (List.range l.length).map (turnAt l b) := ⟨_, rfl⟩
 rw [← hT]
 have hTl : T.length = l.length := by rw [hT]; simp
 have hperm : ∃ n, n ≤ l.length ∧ T = l.drop n ++ l.take n := by
  by_cases h0 : 0 < l.length
  ·exact ⟨b % l.length, Nat.le_of_lt (Nat.mod_lt b h0), by rw [hT, turn_eq h0]⟩
  ·have : l = [] := List.eq_nil_of_length_eq_zero (by omega)
   subst this
   exact ⟨0, Nat.le_refl _, by rw [hT]; rfl⟩
 obtain ⟨n, hn, hTn⟩ := hperm
 have hTf : T.all fireB = true := by
  rw [hTn, List.all_append, Bool.and_eq_true]
  have := List.all_eq_true.1 hf
  exact ⟨List.all_eq_true.2 fun x hx => this x (List.mem_of_mem_drop hx), List.all_eq_true.2 fun x hx => this x (List.mem_of_mem_take hx)⟩
 have hcT : fire_check (k, prog, T) = 0 := by
  have e : ∀ L : List Fire, fire_check (k, prog, L) = cond (!kilnB k || !L.all fireB) 1 (cond (decide ((40 : Int) < (prog.length : Int)) || decide ((8 : Int) < (L.length : Int))) 3 (cond (((prog.length : Int) == 0) || prog.any fun n => !heatB n) 2 0)) := fun _ => rfl
  rw [e, hTf, hTl, ← hf, ← e]; exact hc
 rw [standV_ok hcT, standV_ok hc]
 obtain ⟨S, hS⟩ : ∃ S, S = standL k.1.length (canF k prog) T 0 := ⟨_, rfl⟩
 rw [← hS]
 have hSl : S.length = l.length := by rw [hS, stand_length, hTl]
 have hcnt : cntL k.1.length (canF k prog) T S 0 = manyL k.1.length (canF k prog) l 0 := by
  rw [hS, stand_cnt, hTn, many_turn l hn]
 have hm0 := many_nonneg (np := k.1.length) (F := canF k prog) l 0
 have hpos : ((pos (T.zip S)).length : Int) = manyL k.1.length (canF k prog) l 0 := by
  rcases cnt_ok (np := k.1.length) (F := canF k prog) (Int.le_refl 0) (l := T) (s := S) (by omega) with ⟨_, h⟩ | ⟨_, h⟩
  ·rw [← h, hcnt]
  ·omega
 have hst : law03u_FireStand_2 (standL k.1.length (canF k prog) l 0, k, canG k l prog) = manyL k.1.length (canF k prog) l 0 := by
  rw [stands_eq (stand_length _ _), stand_cnt, decide_eq_false (by omega)]; rfl
 have hzip : pos (T.zip S) = S.filter fun p => !(p == -1) := by
  unfold pos
  rw [List.map_snd_zip (by omega)]
 rw [hzip] at hpos
 refine ⟨by show T.length ≤ big; simp only [big]; omega, fun s => ∃ i : Nat, s.2 = (i : Int) ∧ i ≤ S.length ∧ (0 ≤ s.1 ∧ s.1 ≤ (i : Int)) ∧ ((S.filter fun p => !(p == -1)).length : Int) = s.1 + (((S.drop i).filter fun p => !(p == -1)).length : Int), fun s => ((S.length : Int) - s.2).toNat, ⟨0, rfl, Nat.zero_le _, ⟨by show (0 : Int) ≤ 0; omega, by show (0 : Int) ≤ 0; omega⟩, by simp⟩, ?_⟩
 rintro ⟨m, j0⟩ ⟨j, rfl, r1, r2, r3⟩
 simp only at r2 r3
 dsimp only
 rw [show Int.toNat (j : Int) = j from rfl]
 refine ⟨fun hj => ?_, fun hj => ?_⟩
 ·have hj : (j : Int) < (S.length : Int) := of_decide_eq_true hj
  rw [drop_getD S 0 j (by omega)] at r3
  refine ⟨⟨by omega, hj⟩, fun hv => ⟨by simp only [Z.in64]; omega, by simp only [Z.in64]; omega, rfl, rfl, rfl, ⟨j + 1, by omega, by omega, by omega, ?_⟩, by omega⟩, fun hv => ⟨by simp only [Z.in64]; omega, rfl, rfl, rfl, ⟨j + 1, by omega, by omega, by omega, ?_⟩, by omega⟩⟩
  ·rw [List.filter_cons_of_pos (by exact hv), List.length_cons] at r3; omega
  ·rw [List.filter_cons_of_neg (by rw [hv]; simp)] at r3; exact r3
 ·have hj : ¬ (j : Int) < (S.length : Int) := of_decide_eq_false hj
  rw [List.drop_eq_nil_of_le (by omega), List.filter_nil, List.length_nil] at r3
  have hst : law03u_FireStand_2 (standL k.1.length (canF k prog) l 0, k, (⟨fun x => law03u_FireStand_1u_p (x.1, x.2, k, l, prog), fun x => law03u_FireStand_1 (x.1, x.2, k, l, prog)⟩ : Fun (Int × Int) Bool)) = manyL k.1.length (canF k prog) l 0 := hst
  rw [hst]
  have hm : m = manyL k.1.length (canF k prog) l 0 := by rw [← hpos]; omega
  rw [hm]
  exact ⟨fun _ => trivial, by simp [law03u_alive]⟩
theorem v11 (x : Kiln × (List Fire) × (List Int) × List Int) (hx : k11.pre x) : V11 x := by
 obtain ⟨k, l, prog, by_⟩ := x
 obtain ⟨hby, hbl⟩ : (∀ b ∈ by_, 0 ≤ b ∧ b ≤ 255) ∧ by_.length ≤ 140737488355328 := hx
 have eL : law03u_FireStand (k, l, prog, by_) = true := rfl
 rw [V11, eL]
 dsimp only
 refine ⟨fun _ => ⟨trivial, rfl⟩, fun h => ?_⟩
 simp only [Bool.or_eq_false_iff, decide_eq_false_iff_not, beq_eq_false_iff_ne] at h
 obtain ⟨⟨⟨hk14, hp50⟩, hl12⟩, hb0⟩ := h
 refine ⟨by show l.length ≤ big; simp only [big]; omega, fun hv => ?_, fun hv => ?_⟩
 ·have e : (fire_Stand (k, l, prog)).1 = [] := by
   show (standV k l prog).1 = []
   have hv : (!((standV k l prog).2 == 0)) = true := hv
   rw [standV] at hv ⊢
   cases hc : !(fire_check (k, prog, l) == 0) with
   | true => rfl
   | false => rw [hc] at hv; cases hv
  rw [e]
  exact ⟨fun _ => trivial, rfl⟩
 have hc : fire_check (k, prog, l) = 0 := by
  have hv : (!((standV k l prog).2 == 0)) = false := hv
  rw [standV] at hv
  cases hc : !(fire_check (k, prog, l) == 0) with
  | true => rw [hc] at hv; have hv : (!(fire_check (k, prog, l) == 0)) = false := hv; rw [hc] at hv; cases hv
  | false => simpa using hc
 obtain ⟨hk, hf, hq, hl8⟩ := checks_ok hc
 have K := kiln_iff.1 hk
 have hn := K.len
 have htail : ∀ o, tail11 k l prog by_ o := fun o => tail_ok hc hby (by omega)
 unfold tail11 at htail
 rw [standV_ok hc] at htail ⊢
 obtain ⟨S, hS⟩ : ∃ S, S = standL k.1.length (canF k prog) l 0 := ⟨_, rfl⟩
 obtain ⟨M, hM⟩ : ∃ M, M = manyL k.1.length (canF k prog) l 0 := ⟨_, rfl⟩
 have hm0 := many_nonneg (np := k.1.length) (F := canF k prog) l 0
 have hSl : S.length = l.length := by rw [hS, stand_length]
 have hst : law03u_FireStand_2 (S, k, (⟨fun x => law03u_FireStand_1u_p (x.1, x.2, k, l, prog), fun x => law03u_FireStand_1 (x.1, x.2, k, l, prog)⟩ : Fun (Int × Int) Bool)) = M := by
  have := stands_eq (k := k) (prog := prog) hSl
  rw [hS, stand_cnt, decide_eq_false (by omega)] at this
  rw [hS, hM]; exact this
 have hother : ∀ o : List Int, o.length = l.length → ¬ M < law03u_FireStand_2 (o, k, (⟨fun x => law03u_FireStand_1u_p (x.1, x.2, k, l, prog), fun x => law03u_FireStand_1 (x.1, x.2, k, l, prog)⟩ : Fun (Int × Int) Bool)) ∧
   (law03u_FireStand_2 (o, k, (⟨fun x => law03u_FireStand_1u_p (x.1, x.2, k, l, prog), fun x => law03u_FireStand_1 (x.1, x.2, k, l, prog)⟩ : Fun (Int × Int) Bool)) = M → cntL k.1.length (canF k prog) l o 0 = manyL k.1.length (canF k prog) l 0) := fun o ho => by
  have e : law03u_FireStand_2 (o, k, (⟨fun x => law03u_FireStand_1u_p (x.1, x.2, k, l, prog), fun x => law03u_FireStand_1 (x.1, x.2, k, l, prog)⟩ : Fun (Int × Int) Bool)) = cond (decide (cntL k.1.length (canF k prog) l o 0 < 0)) (-1) (cntL k.1.length (canF k prog) l o 0) := stands_eq (k := k) (prog := prog) ho
  have h1 := cnt_many (np := k.1.length) (F := canF k prog) (t := 0) ho.symm
  rw [e]
  cases hd : decide (cntL k.1.length (canF k prog) l o 0 < 0) with
  | true => simp only [cond_true]; omega
  | false => simp only [cond_false]; omega
 have hpre : ∀ s : List Int, s.length = l.length → law03u_FireStand_2u_p (s, k, (⟨fun x => law03u_FireStand_1u_p (x.1, x.2, k, l, prog), fun x => law03u_FireStand_1 (x.1, x.2, k, l, prog)⟩ : Fun (Int × Int) Bool)) := fun s hs =>
  ⟨by show k.1.length ≤ 8; omega, by show s.length ≤ 8; omega, fun i p hi => ⟨hi.1, by show i < (l.length : Int); have := hi.2; simp only at this; omega⟩⟩
 rw [← hS] at htail ⊢
 dsimp only at htail ⊢
 rw [hst] at htail ⊢
 have e1 : ref03u_Kiln k = true := hk
 rw [e1, hSl]
 have e2 : ((l.length : Int) == (l.length : Int)) = true := beq_self_eq_true _
 rw [e2]
 rw [decide_eq_false (show ¬ (8 : Int) < (l.length : Int) by omega)]
 refine ⟨fun _ => by show k.1.length ≤ 140737488355328; omega, fun h => (by cases h), fun _ => ⟨hpre S hSl, fun h => ?_, fun _ => ?_⟩⟩
 ·have : M < 0 := of_decide_eq_true h
  omega
 refine ⟨fun s => ∃ i : Nat, s = (i : Int) ∧ i ≤ l.length, fun s => ((l.length : Int) - s).toNat, ⟨0, rfl, Nat.zero_le _⟩, ?_⟩
 rintro _ ⟨i, rfl, g1⟩
 rw [show Int.toNat (i : Int) = i from rfl]
 refine ⟨fun hd => ?_, fun hd => ?_⟩
 ·have hd : (i : Int) < (l.length : Int) := of_decide_eq_true hd
  refine ⟨⟨by omega, hd⟩, fun s => ∃ q : Nat, s = (q : Int) ∧ q ≤ k.1.length, fun s => ((k.1.length : Int) - s).toNat, ⟨0, rfl, Nat.zero_le _⟩, ?_⟩
  rintro _ ⟨q, rfl, r1⟩
  refine ⟨fun hq' => ?_, fun hq' => ⟨by simp only [Z.in64]; omega, rfl, ⟨i + 1, by omega, by omega⟩, by dsimp only; omega⟩⟩
  have hq' : (q : Int) < (k.1.length : Int) := of_decide_eq_true hq'
  refine ⟨fun s => ∃ j : Nat, s.2 = (j : Int) ∧ j ≤ l.length ∧ (s.1 = true → S.getD i 0 = -1 ∧ ∀ x ∈ S.take j, x ≠ (q : Int)), fun s => ((l.length : Int) - s.2).toNat, ⟨0, rfl, Nat.zero_le _, fun h => ⟨by simpa using h, fun x hx => by simp at hx⟩⟩, ?_⟩
  rintro ⟨free, j0⟩ ⟨j, rfl, t1, t2⟩
  simp only at t2
  dsimp only
  rw [show Int.toNat (j : Int) = j from rfl]
  refine ⟨fun hj => ?_, fun hj => ?_⟩
  ·have hj : (j : Int) < (l.length : Int) := of_decide_eq_true hj
   refine ⟨⟨by omega, hj⟩, by simp only [Z.in64]; omega, rfl, ⟨j + 1, by omega, by omega, fun h => ?_⟩, by omega⟩
   simp only [Bool.and_eq_true, Bool.not_eq_true', beq_eq_false_iff_ne] at h
   obtain ⟨h1, h2⟩ := t2 h.1
   refine ⟨h1, fun x hx => ?_⟩
   have htk : S.take (j + 1) = S.take j ++ [S.getD j 0] := by
    rw [List.take_add_one]; simp [List.getD, show j < S.length by omega]
   rw [htk] at hx
   rcases List.mem_append.1 hx with hx | hx
   ·exact h2 x hx
   ·rw [List.mem_singleton.1 hx]; exact h.2
  ·have hj : ¬ (j : Int) < (l.length : Int) := of_decide_eq_false hj
   rw [List.take_of_length_le (by omega)] at t2
   have hno : (free && law03u_FireStand_1 ((i : Int), (q : Int), k, l, prog)) = false := by
    cases hfr : free with
    | false => rfl
    | true =>
     obtain ⟨h1, h2⟩ := t2 hfr
     have := no_free (np := k.1.length) (F := canF k prog) (l := l) (i := i) (q := q) (by omega) (by omega) (by rw [← hS]; exact h1) (by rw [← hS]; exact fun hm => h2 _ hm rfl) (0, 0, 0, 0, 0, 0)
     rw [Bool.true_and]; exact this
   rw [hno]
   exact ⟨fun _ => ⟨by show (0 : Int) ≤ (i : Int); omega, hd⟩, fun h => (by cases h), fun _ => ⟨by simp only [Z.in64]; omega, rfl, ⟨q + 1, by omega, by omega⟩, by omega⟩⟩
 have hd : ¬ (i : Int) < (l.length : Int) := of_decide_eq_false hd
 refine ⟨fun s => ∃ i : Nat, s.2 = (i : Int) ∧ i ≤ l.length ∧ s.1.length = i, fun s => ((l.length : Int) - s.2).toNat, ⟨0, rfl, Nat.zero_le _, rfl⟩, ?_⟩
 rintro ⟨o, m0⟩ ⟨m, rfl, g2, g3⟩
 simp only at g3
 dsimp only
 refine ⟨fun hd => ?_, fun hd => ?_⟩
 ·have hd : (m : Int) < (l.length : Int) := of_decide_eq_true hd
  have ht := tmod_bd (a := (m : Int)) (n := (by_.length : Int)) (by omega) (by omega)
  have hbi := hby _ (getD_mem' by_ 0 _ ht.1 ht.2)
  have ht2 := tmod_bd hbi.1 (show (0 : Int) < (k.1.length : Int) + 1 by omega)
  have e1 : ∀ v : Int, (List.replicate 1 (0 : Int)).set 0 v = [v] := fun _ => rfl
  rw [e1]
  have hlen : ∀ v : Int, (o ++ [v]).length = m + 1 := fun v => by rw [List.length_append, List.length_singleton, g3]
  exact ⟨by omega, ht, by simp only [Z.in64]; omega, by omega, by simp only [Z.in64]; omega, roomy_of (by omega) (by omega) (by rw [hlen]; omega), by simp only [Z.in64]; omega, rfl, ⟨m + 1, by omega, by omega, hlen _⟩, by omega⟩
 have hd : ¬ (m : Int) < (l.length : Int) := of_decide_eq_false hd
 have hol : o.length = l.length := by omega
 obtain ⟨o1, o2⟩ := hother o hol
 rw [decide_eq_false o1]
 refine ⟨hpre o hol, fun h => (by cases h), fun _ => ⟨fun he => ?_, fun _ => htail o⟩⟩
 have hlex := stand_lex (np := k.1.length) (F := canF k prog) hol.symm (o2 (by simpa using he))
 rw [← hS] at hlex
 refine ⟨fun s => ∃ i : Nat, s = (i : Int) ∧ i ≤ l.length ∧ ∀ j, j < i → S.getD j 0 = o.getD j 0, fun s => ((l.length : Int) - s).toNat, ⟨0, rfl, Nat.zero_le _, fun j hj => by omega⟩, ?_⟩
 rintro _ ⟨j, rfl, t1, t2⟩
 rw [show Int.toNat (j : Int) = j from rfl]
 refine ⟨fun hj => ?_, fun _ => htail o⟩
 have hj : (j : Int) < (l.length : Int) := of_decide_eq_true hj
 refine ⟨⟨by omega, hj⟩, ⟨by omega, by omega⟩, fun hv => ?_, fun hv => ⟨by simp only [Z.in64]; omega, rfl, rfl, ⟨j + 1, by omega, by omega, fun j' hj' => ?_⟩, by dsimp only; omega⟩⟩
 ·have hv : S.getD j 0 ≠ o.getD j 0 := by simpa using hv
  have hpos : S.getD j 0 ≠ -1 ∧ (o.getD j 0 = -1 ∨ S.getD j 0 < o.getD j 0) := by
   rcases hlex with e | ⟨i0, h1, h2, h3, h4, h5⟩
   ·rw [e] at hv; exact absurd rfl hv
   ·by_cases hlt : j < i0
    ·exact absurd (h2 j hlt) hv
    ·by_cases hgt : i0 < j
     ·exact absurd (t2 i0 hgt) h3
     ·rw [show j = i0 by omega]; exact ⟨h4, h5⟩
  have hz : ((S.getD j 0 == -1) || (!(o.getD j 0 == -1) && decide (o.getD j 0 < S.getD j 0))) = false := by
   rw [Bool.or_eq_false_iff, beq_eq_false_iff_ne, Bool.and_eq_false_iff, Bool.not_eq_false', beq_iff_eq, decide_eq_false_iff_not]
   refine ⟨hpos.1, ?_⟩
   rcases hpos.2 with h | h
   ·exact .inl h
   ·exact .inr (by omega)
  rw [hz]
  exact ⟨⟨by omega, hj⟩, fun _ => ⟨by omega, by omega⟩, fun _ => ⟨by omega, by omega⟩, fun _ => ⟨by omega, hj⟩, fun h => (by cases h), fun _ => htail o⟩
 ·by_cases hji : j' < j
  ·exact t2 j' hji
  ·rw [show j' = j by omega]; simpa using hv
end Go.Fire
