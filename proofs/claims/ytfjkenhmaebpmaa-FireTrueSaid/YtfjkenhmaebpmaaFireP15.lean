/-
  Chapter 3: FireTrue's functions, and FireTrue: their conditions proved.
-/
import Derived.Test.YtfjkenhmaebpmaaFireP14
import Derived.Test.YtfjkenhmaebpmaaFireAuto4
set_option linter.all false
set_option maxRecDepth 100000
set_option maxHeartbeats 1000000
set_option linter.unusedVariables false
namespace Go.Fire
open Go Go.Sx
theorem tabs_ok4 : TabsOk Go.Proofs.Try.prog T4 := by
 refine ⟨by kernel_rfl, fun p hp => ?_⟩
 simp only [T4, List.mem_cons, List.not_mem_nil, or_false] at hp
 rcases hp with rfl | rfl <;>
  exact ⟨by kernel_rfl, deep_keyed (by kernel_rfl) (of_decide_eq_true (by kernel_rfl)) (by kernel_rfl) (by kernel_rfl), by kernel_rfl⟩
theorem v67 (x : Span × Int) (hp : k67.pre x) : V67 x := by
 obtain ⟨s, b⟩ := x
 obtain ⟨⟨h1, h2, h3⟩, h4, h5⟩ : (-100000 ≤ s.1 ∧ s.1 ≤ s.2 ∧ s.2 ≤ 100000) ∧ 0 ≤ b ∧ b ≤ 65535 := hp
 have ht := tmod_bd h4 (show 0 < s.2 - s.1 + 1 by omega)
 refine ⟨by simp only [Z.in64]; omega, by simp only [Z.in64]; omega, ?_, by simp only [Z.in64]; omega, rfl⟩
 show s.2 - s.1 + 1 ≠ 0
 omega
theorem pick_pre {s : Span} {b : Int} (h1 : -100000 ≤ s.1) (h2 : s.1 ≤ s.2) (h3 : s.2 ≤ 100000) (h : 0 ≤ b ∧ b ≤ 65535) : law03u_pick_p (s, b) := ⟨⟨h1, h2, h3⟩, h⟩
theorem by_at {by_ : List Int} (hb : byOk by_) {i : Int} (h0 : 0 ≤ i) (h1 : i < (by_.length : Int)) : 0 ≤ by_.getD i.toNat 0 ∧ by_.getD i.toNat 0 ≤ 65535 :=
 hb.1 _ (getD_mem' by_ 0 i h0 h1)
theorem place_true {p : Place} {by_ : List Int} (hp : placeB p = true) (hb : byOk by_) : (p.1.1 ≤ gainV p by_ ∧ gainV p by_ ≤ p.1.2) ∧ p.2.1 ≤ offV p by_ ∧ offV p by_ ≤ p.2.2 := by
 have P := place_iff.1 hp
 have hn := hb.2.1
 exact ⟨pick_bd P.1.2.1 (by_at hb (i := 0) (by omega) (by omega)).1, pick_bd P.2.2.1 (by_at hb (i := (by_.length : Int) - 1) (by omega) (by omega)).1⟩
theorem hour_true {err : Int} {l by_ : List Int} (he : 0 ≤ err) (hb : byOk by_) {i : Nat} (hs : setOk (l.getD i 0)) : max 0 (l.getD i 0 - err) ≤ hourV err l by_ i ∧ hourV err l by_ i ≤ l.getD i 0 + err := by
 have hn := hb.2.1
 have hs1 := hs.1
 have ht := tmod_bd (show 0 ≤ (i : Int) by omega) (show 0 < (by_.length : Int) by omega)
 exact pick_bd (s := (max 0 (l.getD i 0 - err), l.getD i 0 + err)) (by show max 0 (l.getD i 0 - err) ≤ l.getD i 0 + err; omega) (by_at hb ht.1 ht.2).1
theorem heats_true {k : Kiln} {f : Fire} {p : Place} {l by_ : List Int} (he : 0 ≤ k.2.1 ∧ k.2.1 ≤ 100) (hp : placeB p = true) (hl : progB l = true) (hb : byOk by_) : Truth (k, f, p) l (heatsV k.2.1 p l by_) := by
 have P := prog_iff.1 hl
 have H := place_true hp hb
 refine ⟨by simp [heatsV], gainV p by_, offV p by_, H.1, H.2, fun i hi => ⟨hourV k.2.1 l by_ i, hour_true he.1 hb (P.2 _ (getD_mem l 0 i hi)), ?_⟩⟩
 rw [heatsV, range_getD _ _ hi]; rfl
theorem v32 (x : Kiln × Int × (List Int) × List Int) (hp : k32.pre x) : V32 x := by
 obtain ⟨k, place, l, by_⟩ := x
 obtain ⟨ho, hl, hb⟩ : placeOk k place ∧ progB l = true ∧ byOk by_ := hp
 obtain ⟨he, h2⟩ := place_ok ho
 have P := prog_iff.1 hl
 have hn := hb.2.1
 obtain ⟨p, hpp⟩ : ∃ p, p = k.1.getD place.toNat noPlace := ⟨_, rfl⟩
 rw [← hpp] at h2
 have Q := place_iff.1 h2
 have H := place_true h2 hb
 have b0 := by_at hb (i := 0) (by omega) (by omega)
 have b1 := by_at hb (i := (by_.length : Int) - 1) (by omega) (by omega)
 have eV : law03u_heats (k, place, l, by_) = heatsV k.2.1 p l by_ := by rw [hpp]; rfl
 rw [V32, eV]
 dsimp only
 rw [← hpp]
 have hn2 := hb.2.2
 refine ⟨ho.2, ⟨by omega, by omega⟩, pick_pre (by omega) (by omega) (by omega) b0, by simp only [Z.in64]; omega, ⟨by omega, by omega⟩, pick_pre (by omega) (by omega) (by omega) b1,
  fun s => ∃ i : Nat, s.2 = (i : Int) ∧ i ≤ l.length ∧ s.1 = (List.range i).map (heatV k.2.1 p l by_), fun s => ((l.length : Int) - s.2).toNat, ⟨0, rfl, Nat.zero_le _, rfl⟩, ?_⟩
 rintro ⟨out, i0⟩ ⟨i, rfl, g2, g3⟩
 simp only at g3
 refine ⟨fun hi => ?_, fun hi => ?_⟩
 ·have hi : (i : Int) < (l.length : Int) := of_decide_eq_true hi
  have hil : i < l.length := by omega
  have hs := P.2 _ (getD_mem l 0 i hil)
  have ht := tmod_bd (show 0 ≤ (i : Int) by omega) (show 0 < (by_.length : Int) by omega)
  have bi := by_at hb ht.1 ht.2
  have hh := hour_true he.1 hb (l := l) (i := i) hs
  have hok := hour_ok he h2 hs H.1 H.2 hh
  have e0 : Int.toNat (i : Int) = i := rfl
  have eg : law03u_pick (p.1, by_.getD (Int.toNat 0) 0) = gainV p by_ := rfl
  have eo : law03u_pick (p.2, by_.getD (Int.toNat ((by_.length : Int) - 1)) 0) = offV p by_ := rfl
  have eh : law03u_pick (law03u_span (max 0 (l.getD i 0 - k.2.1), l.getD i 0 + k.2.1), by_.getD (Int.toNat (Int.tmod (i : Int) (by_.length : Int))) 0) = hourV k.2.1 l by_ i := rfl
  have e1 : ∀ v : Int, (List.replicate 1 (0 : Int)).set 0 v = [v] := fun _ => rfl
  dsimp only
  rw [e0, eg, eo, eh, e1]
  refine ⟨⟨by omega, hi⟩, by simp only [Z.in64]; omega, by simp only [Z.in64]; omega, trivial, by omega, ht, ⟨⟨?_, ?_, ?_⟩, bi⟩, by simp only [Z.in64]; omega, by simp only [Z.in64]; omega, by simp only [Z.in64]; omega, roomy_of (by omega) (by omega) ?_, by simp only [Z.in64]; omega, rfl, ⟨i + 1, by omega, by omega, ?_⟩, by omega⟩
  ·show -100000 ≤ max 0 (l.getD i 0 - k.2.1); omega
  ·show max 0 (l.getD i 0 - k.2.1) ≤ l.getD i 0 + k.2.1; omega
  ·show l.getD i 0 + k.2.1 ≤ 100000; omega
  ·rw [g3]; simp only [List.length_append, List.length_map, List.length_range, List.length_singleton]; omega
  ·rw [g3, List.range_succ, List.map_append]; rfl
 ·have hi : ¬ (i : Int) < (l.length : Int) := of_decide_eq_false hi
  show out = heatsV k.2.1 p l by_
  rw [g3, heatsV, show i = l.length by omega]
theorem v33 (x : Fire × List Int) (hp : k33.pre x) : V33 x := by
 obtain ⟨f, l⟩ := x
 obtain ⟨⟨f1, f2, f3, f4, f5⟩, ⟨hl1, hl2⟩, hh⟩ : ((0 ≤ f.1 ∧ f.1 ≤ 4000) ∧ (0 ≤ f.2.1 ∧ f.2.1 ≤ 4000) ∧ (0 ≤ f.2.2.1 ∧ f.2.2.1 ≤ 4000) ∧ (0 ≤ f.2.2.2.2.1 ∧ f.2.2.2.2.1 ≤ 4000) ∧ 0 ≤ f.2.2.2.2.2 ∧ f.2.2.2.2.2 ≤ 4000) ∧ (1 ≤ l.length ∧ l.length ≤ 1000) ∧ ∀ n ∈ l, heatOk n := hp
 have hat : ∀ i, i < l.length → -100000000 ≤ l.getD i 0 ∧ l.getD i 0 ≤ 100000000 := fun i hi => hh _ (getD_mem l 0 i hi)
 obtain ⟨r1, h1⟩ : ∃ r, r = cond (decide (1000 * f.1 < l.getD 0 0)) (0 : Int) (-1) := ⟨_, rfl⟩
 obtain ⟨r2, h2⟩ : ∃ r, r = firstH 0 (fun e => decide (e.2 ≤ 1000 * f.2.2.1)) (restOf l 0) := ⟨_, rfl⟩
 obtain ⟨r3, h3⟩ : ∃ r, r = firstH ((1 : Nat) : Int) (fun e => decide (e.2 - e.1 ≤ 1000 * f.2.2.2.2.1)) (restOf l 0) := ⟨_, rfl⟩
 obtain ⟨r4, h4⟩ : ∃ r, r = firstH ((1 : Nat) : Int) (fun e => decide (e.1 - e.2 ≤ 1000 * f.2.2.2.2.2)) (restOf l 0) := ⟨_, rfl⟩
 obtain ⟨r5, h5⟩ : ∃ r, r = cond (decide (runB (l.map fun n => decide (1000 * f.2.1 ≤ n)) 0 0 < f.2.2.2.1)) (0 : Int) (-1) := ⟨_, rfl⟩
 obtain ⟨r6, h6⟩ : ∃ r, r = cond (decide (1000 * f.1 < l.getD (l.length - 1) 0)) ((l.length : Int) - 1) (-1) := ⟨_, rfl⟩
 have eB : law03u_breaks (f, l) = cond (decide (0 ≤ r1)) (1, r1) (cond (decide (0 ≤ r2)) (2, r2) (cond (decide (0 ≤ r3)) (3, r3) (cond (decide (0 ≤ r4)) (4, r4) (cond (decide (0 ≤ r5)) (5, r5) (cond (decide (0 ≤ r6)) (6, r6) (0, 0)))))) := by
  rw [h1, h2, h3, h4, h5, h6]; rfl
 have e0 : Int.toNat 0 = 0 := rfl
 rw [V33]
 dsimp only
 rw [e0]
 refine ⟨⟨by omega, by omega⟩, by simp only [Z.in64]; omega, fun hv => ?_, fun hv => ?_⟩
 ·rw [hv] at h1
  rw [eB, at_cond 0 h1, h1]; rfl
 rw [hv, cond_false] at h1
 rw [no_cond h1] at eB
 refine ⟨fun s => ∃ i : Nat, s = (i : Int) ∧ i ≤ l.length ∧ r2 = firstH 0 (fun e => decide (e.2 ≤ 1000 * f.2.2.1)) (restOf l i), fun s => ((l.length : Int) - s).toNat, ⟨0, rfl, Nat.zero_le _, h2⟩, ?_⟩
 rintro _ ⟨i, rfl, g1, g2⟩
 have ei : Int.toNat (i : Int) = i := rfl
 refine ⟨fun hd => ?_, fun hd => ?_⟩
 ·have hd : (i : Int) < (l.length : Int) := of_decide_eq_true hd
  rw [firstH_step (by omega), decide_eq_true (show (0 : Int) ≤ (i : Int) by omega), Bool.true_and] at g2
  rw [ei]
  refine ⟨⟨by omega, hd⟩, by simp only [Z.in64]; omega, fun hv => ?_, fun hv => ⟨by simp only [Z.in64]; omega, ⟨i + 1, by omega, by omega, ?_⟩, by dsimp only; omega⟩⟩
  ·rw [lt_le] at hv
   rw [hv, cond_true] at g2
   rw [eB, at_cond i g2, g2]
  ·rw [lt_le] at hv
   rw [hv] at g2; exact g2
 have hd : ¬ (i : Int) < (l.length : Int) := of_decide_eq_false hd
 rw [firstH_end (by omega)] at g2
 rw [no_cond g2] at eB
 refine ⟨fun s => ∃ i : Nat, s = (i : Int) ∧ 1 ≤ i ∧ i ≤ l.length ∧ r3 = firstH ((1 : Nat) : Int) (fun e => decide (e.2 - e.1 ≤ 1000 * f.2.2.2.2.1)) (restOf l i), fun s => ((l.length : Int) - s).toNat, ⟨1, rfl, Nat.le_refl _, hl1, by rw [h3, firstH_skip (i := 1) (Nat.le_refl _) hl1]⟩, ?_⟩
 rintro _ ⟨i, rfl, g0, g1, g2⟩
 have ei : Int.toNat (i : Int) = i := rfl
 have ej : Int.toNat ((i : Int) - 1) = i - 1 := by omega
 refine ⟨fun hd => ?_, fun hd => ?_⟩
 ·have hd : (i : Int) < (l.length : Int) := of_decide_eq_true hd
  rw [firstH_step (by omega), decide_eq_true (show ((1 : Nat) : Int) ≤ (i : Int) by omega), Bool.true_and] at g2
  have a1 := hat i (by omega)
  have a2 := hat (i - 1) (by omega)
  rw [ei, ej]
  refine ⟨⟨by omega, hd⟩, by simp only [Z.in64]; omega, ⟨by omega, by omega⟩, by simp only [Z.in64]; omega, by simp only [Z.in64]; omega, fun hv => ?_, fun hv => ⟨by simp only [Z.in64]; omega, ⟨i + 1, by omega, by omega, by omega, ?_⟩, by dsimp only; omega⟩⟩
  ·rw [lt_le] at hv
   rw [hv, cond_true] at g2
   rw [eB, at_cond i g2, g2]
  ·rw [lt_le] at hv
   rw [hv] at g2; exact g2
 have hd : ¬ (i : Int) < (l.length : Int) := of_decide_eq_false hd
 rw [firstH_end (by omega)] at g2
 rw [no_cond g2] at eB
 refine ⟨fun s => ∃ i : Nat, s = (i : Int) ∧ 1 ≤ i ∧ i ≤ l.length ∧ r4 = firstH ((1 : Nat) : Int) (fun e => decide (e.1 - e.2 ≤ 1000 * f.2.2.2.2.2)) (restOf l i), fun s => ((l.length : Int) - s).toNat, ⟨1, rfl, Nat.le_refl _, hl1, by rw [h4, firstH_skip (i := 1) (Nat.le_refl _) hl1]⟩, ?_⟩
 rintro _ ⟨i, rfl, g0, g1, g2⟩
 have ei : Int.toNat (i : Int) = i := rfl
 have ej : Int.toNat ((i : Int) - 1) = i - 1 := by omega
 refine ⟨fun hd => ?_, fun hd => ?_⟩
 ·have hd : (i : Int) < (l.length : Int) := of_decide_eq_true hd
  rw [firstH_step (by omega), decide_eq_true (show ((1 : Nat) : Int) ≤ (i : Int) by omega), Bool.true_and] at g2
  have a1 := hat i (by omega)
  have a2 := hat (i - 1) (by omega)
  rw [ei, ej]
  refine ⟨by simp only [Z.in64]; omega, ⟨by omega, by omega⟩, ⟨by omega, hd⟩, by simp only [Z.in64]; omega, by simp only [Z.in64]; omega, fun hv => ?_, fun hv => ⟨by simp only [Z.in64]; omega, ⟨i + 1, by omega, by omega, by omega, ?_⟩, by dsimp only; omega⟩⟩
  ·rw [lt_le] at hv
   rw [hv, cond_true] at g2
   rw [eB, at_cond i g2, g2]
  ·rw [lt_le] at hv
   rw [hv] at g2; exact g2
 have hd : ¬ (i : Int) < (l.length : Int) := of_decide_eq_false hd
 rw [firstH_end (by omega)] at g2
 rw [no_cond g2] at eB
 refine ⟨fun s => ∃ i : Nat, s.2.2 = (i : Int) ∧ i ≤ l.length ∧ (0 ≤ s.1 ∧ s.1 ≤ (i : Int)) ∧ runB (l.map fun n => decide (1000 * f.2.1 ≤ n)) 0 0 = runB ((l.drop i).map fun n => decide (1000 * f.2.1 ≤ n)) s.1 s.2.1, fun s => ((l.length : Int) - s.2.2).toNat, ⟨0, rfl, Nat.zero_le _, ⟨by show (0 : Int) ≤ 0; omega, by show (0 : Int) ≤ 0; omega⟩, rfl⟩, ?_⟩
 rintro ⟨now, best, i0⟩ ⟨i, rfl, g1, g2, g3⟩
 simp only at g2 g3
 have ei : Int.toNat (i : Int) = i := rfl
 refine ⟨fun hd => ?_, fun hd => ?_⟩
 ·have hd : (i : Int) < (l.length : Int) := of_decide_eq_true hd
  rw [drop_getD l 0 i (by omega), List.map_cons, runB] at g3
  dsimp only
  rw [ei]
  refine ⟨⟨by omega, hd⟩, by simp only [Z.in64]; omega, by simp only [Z.in64]; omega, fun hv => ⟨by simp only [Z.in64]; omega, ⟨i + 1, by omega, by omega, ⟨by omega, by omega⟩, ?_⟩, by omega⟩, fun hv => ⟨by simp only [Z.in64]; omega, ⟨i + 1, by omega, by omega, ⟨by omega, by omega⟩, ?_⟩, by omega⟩⟩
  ·rw [lt_le] at hv
   rw [not_iff.1.1 hv] at g3; exact g3
  ·rw [lt_le] at hv
   rw [not_iff.2.1 hv] at g3; exact g3
 have hd : ¬ (i : Int) < (l.length : Int) := of_decide_eq_false hd
 rw [List.drop_eq_nil_of_le (by omega), List.map_nil, runB] at g3
 rw [g3] at h5
 have el : Int.toNat ((l.length : Int) - 1) = l.length - 1 := by omega
 dsimp only
 rw [el]
 refine ⟨fun hv => ?_, fun hv => ?_⟩
 ·rw [hv, cond_true] at h5
  rw [eB, at_cond 0 h5, h5]
 rw [hv, cond_false] at h5
 rw [no_cond h5] at eB
 refine ⟨by simp only [Z.in64]; omega, ⟨by omega, by omega⟩, by simp only [Z.in64]; omega, fun hv => ⟨by simp only [Z.in64]; omega, ?_⟩, fun hv => ?_⟩
 ·rw [hv, cond_true] at h6
  have q7 : r6 = ((l.length - 1 : Nat) : Int) := by omega
  rw [eB, at_cond (l.length - 1) q7, h6]
 ·rw [hv, cond_false] at h6
  rw [eB, no_cond h6]
theorem breaks_pre {k : Kiln} {f : Fire} {p : Place} {l h : List Int} (hf : (0 ≤ f.1 ∧ f.1 ≤ 4000) ∧ (0 ≤ f.2.1 ∧ f.2.1 ≤ 4000) ∧ (0 ≤ f.2.2.1 ∧ f.2.2.1 ≤ 4000) ∧ (0 ≤ f.2.2.2.2.1 ∧ f.2.2.2.2.1 ≤ 4000) ∧ 0 ≤ f.2.2.2.2.2 ∧ f.2.2.2.2.2 ≤ 4000)
  (he : 0 ≤ k.2.1 ∧ k.2.1 ≤ 100) (hp : placeB p = true) (hl : progB l = true) (t : Truth (k, f, p) l h) : law03u_breaks_p (f, h) := by
 have P := prog_iff.1 hl
 obtain ⟨g, o, hg, ho, hx⟩ := t.ex
 have hlen := t.len
 refine ⟨hf, ⟨by show 1 ≤ h.length; omega, by show h.length ≤ 1000; omega⟩, fun n hn => ?_⟩
 obtain ⟨i, hi, rfl⟩ := List.mem_iff_getElem.1 hn
 have hi : i < h.length := hi
 obtain ⟨x, hx1, hx2⟩ := hx i (by omega)
 have := hour_ok he hp (P.2 _ (getD_mem l 0 i (by omega))) hg ho hx1
 have e : h[i] = h.getD i 0 := by simp [List.getD, hi]
 show -100000000 ≤ h[i] ∧ h[i] ≤ 100000000
 rw [e, hx2]; omega
theorem fire_bds {f : Fire} (hf : fireB f = true) : (0 ≤ f.1 ∧ f.1 ≤ 4000) ∧ (0 ≤ f.2.1 ∧ f.2.1 ≤ 4000) ∧ (0 ≤ f.2.2.1 ∧ f.2.2.1 ≤ 4000) ∧ (0 ≤ f.2.2.2.2.1 ∧ f.2.2.2.2.1 ≤ 4000) ∧ 0 ≤ f.2.2.2.2.2 ∧ f.2.2.2.2.2 ≤ 4000 := by
 have F := fire_iff.1 hf
 omega
theorem heat_eq {k : Kiln} (hk : kilnB k = true) {place set : Int} (h0 : 0 ≤ place) (h1 : place < (k.1.length : Int)) (hs : setOk set) :
  fire_Heat (k, place, set) = ((leastV k.2.1 (k.1.getD place.toNat noPlace) set / 1000, -((-(mostV k.2.1 (k.1.getD place.toNat noPlace) set)) / 1000)), 0) := by
 show heatOf k place set = _
 rw [heatOf, hk, inB_iff.2 (show 0 ≤ place ∧ place ≤ (k.1.length : Int) - 1 by omega), show heatB set = true from inB_iff.2 hs]; rfl
theorem v7 (x : Kiln × Fire × (List Int) × List Int) (hx : k7.pre x) : V7 x := by
 obtain ⟨k, f, l, by_⟩ := x
 obtain ⟨hby, hbl⟩ : (∀ b ∈ by_, 0 ≤ b ∧ b ≤ 65535) ∧ by_.length ≤ 140737488355328 := hx
 have eL : law03u_FireTrue (k, f, l, by_) = true := rfl
 rw [V7, eL]
 dsimp only
 refine ⟨fun _ => ⟨trivial, rfl⟩, fun h => ⟨trivial, fun hv => ?_, fun hv => ?_⟩⟩
 ·have e : fire_Check (k, f, l) = ([], fire_check (k, l, [f])) := by
   show checkV k f l = _
   have hv : (!((checkV k f l).2 == 0)) = true := hv
   rw [checkV] at hv ⊢
   cases hc : !(fire_check (k, l, [f]) == 0) with
   | true => rfl
   | false => rw [hc] at hv; cases hv
  rw [e]
  exact ⟨fun _ => trivial, rfl⟩
 simp only [Bool.or_eq_false_iff, decide_eq_false_iff_not, beq_eq_false_iff_ne] at h
 obtain ⟨⟨hk14, hl50⟩, hb0⟩ := h
 have hbo : byOk by_ := ⟨hby, by omega, hbl⟩
 have hc0 : fire_check (k, l, [f]) = 0 := by
  have hv : (!((checkV k f l).2 == 0)) = false := hv
  rw [checkV] at hv
  cases hc : !(fire_check (k, l, [f]) == 0) with
  | true => rw [hc] at hv; have hv : (!(fire_check (k, l, [f]) == 0)) = false := hv; rw [hc] at hv; cases hv
  | false => simpa using hc
 obtain ⟨hk, hf, hl⟩ := check_ok.1 hc0
 have K := kiln_iff.1 hk
 have F := fire_iff.1 hf
 have P := prog_iff.1 hl
 obtain ⟨Bd, hBd⟩ : ∃ Bd, Bd = badsFrom k f l k.1.length 0 := ⟨_, rfl⟩
 have eC : fire_Check (k, f, l) = (Bd, 0) := by
  show checkV k f l = _
  rw [checkV, hc0, hBd]; rfl
 have e1 : ref03u_Kiln k = true := hk
 have e2 : ref03u_Fire f = true := hf
 have e3 : ref03u_Program l = true := hl
 rw [eC, e1, e2, e3]
 dsimp only
 refine ⟨by show k.1.length ≤ 140737488355328; omega, fun _ => trivial, fun _ => by show l.length ≤ 140737488355328; omega, fun h => (by cases h), fun _ => ?_⟩
 refine ⟨fun s => ∃ a i : Nat, s.1 = (a : Int) ∧ s.2 = (i : Int) ∧ i ≤ k.1.length ∧ a ≤ Bd.length ∧ a ≤ i ∧ Bd.drop a = badsFrom k f l (k.1.length - i) i, fun s => ((k.1.length : Int) - s.2).toNat, ⟨0, 0, rfl, rfl, Nat.zero_le _, Nat.zero_le _, Nat.le_refl _, hBd⟩, ?_⟩
 rintro ⟨a0, i0⟩ ⟨a, i, rfl, rfl, g4, g5, g6, g7⟩
 dsimp only
 refine ⟨fun hi => ?_, fun hi => ?_⟩
 ·have hi : (i : Int) < (k.1.length : Int) := of_decide_eq_true hi
  have hin : i < k.1.length := by omega
  obtain ⟨b1, b2, b3⟩ := at_bad (B := Bd) hin g5 g7
  have ho : placeOk k (i : Int) := ⟨hk, by omega, hi⟩
  have hpl := (place_ok ho).2
  have T := heats_true (f := f) K.err hpl hl hbo
  obtain ⟨p, hpp⟩ : ∃ p, p = k.1.getD (Int.toNat (i : Int)) noPlace := ⟨_, rfl⟩
  rw [← hpp] at hpl T
  have eH : law03u_heats (k, (i : Int), l, by_) = heatsV k.2.1 p l by_ := by rw [hpp]; rfl
  obtain ⟨H, hH⟩ : ∃ H, H = heatsV k.2.1 p l by_ := ⟨_, rfl⟩
  rw [← hH] at T eH
  have hlen := T.len
  obtain ⟨g, o, hg, hof, hx⟩ := T.ex
  refine ⟨⟨ho, hl, hbo⟩, fun s => ∃ j : Nat, s = (j : Int) ∧ j ≤ l.length, fun s => ((l.length : Int) - s).toNat, ⟨0, rfl, Nat.zero_le _⟩, ?_⟩
  rintro _ ⟨j, rfl, r1⟩
  rw [eH]
  refine ⟨fun hj => ?_, fun hj => ?_⟩
  ·have hj : (j : Int) < (l.length : Int) := of_decide_eq_true hj
   have hjl : j < l.length := by omega
   have hs : setOk (l.getD j 0) := P.2 _ (getD_mem l 0 j hjl)
   have ej : Int.toNat (j : Int) = j := rfl
   obtain ⟨x, hx1, hx2⟩ := hx j hjl
   have hok := hour_ok K.err hpl hs hg hof hx1
   rw [← hx2] at hok
   have q1 := least_bd K.err hpl hs
   have q2 := most_bd K.err hpl hs
   rw [ej, heat_eq hk (by omega) hi hs, ← hpp]
   dsimp only
   obtain ⟨A, hA⟩ : ∃ A, A = leastV k.2.1 p (l.getD j 0) := ⟨_, rfl⟩
   obtain ⟨B, hB⟩ : ∃ B, B = mostV k.2.1 p (l.getD j 0) := ⟨_, rfl⟩
   rw [← hA, ← hB] at hok ⊢
   rw [← hA] at q1
   rw [← hB] at q2
   have h1 : ¬ H.getD j 0 < 1000 * (A / 1000) := by omega
   have h2 : ¬ 1000 * (-(-B / 1000)) < H.getD j 0 := by omega
   rw [decide_eq_false h1, decide_eq_false h2]
   exact ⟨⟨by omega, hj⟩, trivial, fun _ => ⟨by omega, by omega⟩, fun _ => by simp only [Z.in64]; omega, fun _ => ⟨by omega, by omega⟩, fun _ => by simp only [Z.in64]; omega, fun h => (by cases h), fun _ => ⟨by simp only [Z.in64]; omega, ⟨j + 1, by omega, by omega⟩, by omega⟩⟩
  ·have hso := chn_sooner (n := 1) (by omega) (truth_sooner (s := (k, f, p)) ⟨K.err, hpl, hf⟩ hl T)
   have hP1 := P.1.1
   have est : standAt k f (i : Int) = (k, f, p) := by rw [hpp]; rfl
   obtain ⟨br, hbr⟩ : ∃ br, br = fire_stand_broken ((k, f, p), l) := ⟨_, rfl⟩
   obtain ⟨ow, how⟩ : ∃ ow, ow = law03u_breaks (f, H) := ⟨_, rfl⟩
   have e5 : chn 1 (sureR (k, f, p) l) = br := by rw [hbr]; exact (broken_chn (s := (k, f, p)) (by omega) F.2.1.1).symm
   have e6 : chn 1 (trueR f H) = ow := by rw [how]; rfl
   rw [e5] at hso
   have hso : ow.1 = 0 ∨ (1 ≤ br.1 ∧ (br.1 < ow.1 ∨ (br.1 = ow.1 ∧ br.2 ≤ ow.2))) := by rw [← e6]; exact hso
   have eba : badAt k f l i = !(br.1 == 0) := by rw [hbr, hpp]; rfl
   have hbp := breaks_pre (f := f) (fire_bds hf) K.err hpl hl T
   rw [b1, why_eq hk hf hl (by omega) hi, est, ← hbr, ← how]
   refine ⟨fun hd => ⟨by omega, of_decide_eq_true hd⟩, trivial, fun hv => ?_, fun hv => ?_⟩
   ·have h7 := b2 hv
    rw [eba, Bool.not_eq_true'] at hv
    rw [eba, hv]
    refine ⟨by simp only [Z.in64]; omega, hbp, fun hh => ?_, fun hh => ⟨fun hz => ?_, fun _ => ⟨by simp only [Z.in64]; omega, ⟨a + 1, i + 1, by omega, by omega, by omega, h7.1, by omega, h7.2⟩, by omega⟩⟩⟩
    ·simp at hh
    ·exfalso
     simp only [Bool.not_false, Bool.true_and, cond_false, Bool.and_eq_true, Bool.or_eq_true, decide_eq_true_eq, beq_iff_eq, Bool.not_eq_true', beq_eq_false_iff_ne] at hz
     obtain ⟨h8, h9⟩ := hz
     omega
   ·have h7 := b3 hv
    rw [eba, Bool.not_eq_false'] at hv
    have hv0 : br.1 = 0 := by simpa using hv
    have ho0 : ow.1 = 0 := by omega
    rw [eba, hv, ho0]
    refine ⟨hbp, fun hh => ?_, fun hh => ⟨fun hz => ?_, fun _ => ⟨by simp only [Z.in64]; omega, ⟨a, i + 1, by omega, by omega, by omega, g5, by omega, h7⟩, by omega⟩⟩⟩
    ·simp at hh
    ·simp at hz
 ·have hi : ¬ (i : Int) < (k.1.length : Int) := of_decide_eq_false hi
  rw [show k.1.length - i = 0 by omega, badsFrom] at g7
  have ha : a = Bd.length := by
   have := congrArg List.length g7
   simp at this; omega
  rw [ha]
  refine ⟨fun _ => trivial, ?_⟩
  simp [law03u_alive]
end Go.Fire
