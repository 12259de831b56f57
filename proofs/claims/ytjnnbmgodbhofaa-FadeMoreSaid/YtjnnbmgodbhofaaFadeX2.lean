/-
  Chapter 12: FadeMore: its condition proved.
-/
import Derived.Test.YtjnnbmgodbhofaaFadeX1
import Derived.Test.YtjnnbmgodbhofaaFadeAuto3
set_option linter.all false
set_option maxRecDepth 100000
set_option maxHeartbeats 4000000
set_option linter.unusedVariables false
namespace Go.Fade
open Go Go.Sx
theorem tabs_ok3 : TabsOk Go.Proofs.Try.prog T3 := by
 refine ⟨by kernel_rfl, fun p hp => ?_⟩
 simp only [T3, List.mem_singleton] at hp
 subst hp
 exact tabs_ok.mty _ (by simp [T])
theorem v35 (x : Span × Span) (_ : k35.pre x) : V35 x := rfl
def untilP (f : Fading) (what index by_ : Int) : Prop := (((((!(what == 0)) || (!((fade_Fast (f, what, index)).2 == 0))) = true) → ((law12u_alive_p ()) ∧ (((law12u_alive ()) : Bool) = true))) ∧ ((((!(what == 0)) || (!((fade_Fast (f, what, index)).2 == 0))) = false) → ((law12u_span_p (by_, by_)) ∧ ((fade_Until_p (f, index, (law12u_span (by_, by_)))) ∧ (Z.in64 (by_ + 1) ∧ (Z.in64 (by_ + 1) ∧ ((law12u_span_p ((by_ + 1), (by_ + 1))) ∧ ((fade_Until_p (f, index, (law12u_span ((by_ + 1), (by_ + 1))))) ∧ ((((((fade_Until (f, index, (law12u_span ((by_ + 1), (by_ + 1))))).2 == 0) && ((((fade_Until (f, index, (law12u_span (by_, by_)))).2 == 4) && (by_ == 0)) || (((fade_Until (f, index, (law12u_span (by_, by_)))).2 == 0) && decide (((fade_Until (f, index, (law12u_span ((by_ + 1), (by_ + 1))))).1 : Int) ≤ (fade_Until (f, index, (law12u_span (by_, by_)))).1)))) = true) → (law12u_alive_p ())) ∧ ((((((fade_Until (f, index, (law12u_span ((by_ + 1), (by_ + 1))))).2 == 0) && ((((fade_Until (f, index, (law12u_span (by_, by_)))).2 == 4) && (by_ == 0)) || (((fade_Until (f, index, (law12u_span (by_, by_)))).2 == 0) && decide (((fade_Until (f, index, (law12u_span ((by_ + 1), (by_ + 1))))).1 : Int) ≤ (fade_Until (f, index, (law12u_span (by_, by_)))).1)))) && (law12u_alive ())) : Bool) = true))))))))))
theorem until_ok {f : Fading} {what index by_ : Int} (Of : OkC f) (hb : 0 ≤ by_ ∧ by_ ≤ 255) : untilP f what index by_ := by
 have hsz : sizeP f := by
  have h1 := Of.nm
  have h2 := Of.nr
  have h3 := Of.nc
  simp only [sizeP, big]; omega
 refine ⟨fun _ => ⟨trivial, rfl⟩, fun hv => ?_⟩
 simp only [Bool.or_eq_false_iff, Bool.not_eq_false', beq_iff_eq] at hv
 obtain ⟨rfl, hf⟩ := hv
 have hf : (fastV f 0 index).2 = 0 := hf
 have hu := until_more Of hf hb
 have e1 : ∀ c, fade_Until (f, index, law12u_span (c, c)) = untilV f index (c, c) := fun _ => rfl
 rw [e1, e1, hu]
 exact ⟨trivial, hsz, by simp only [Z.in64]; omega, by simp only [Z.in64]; omega, trivial, hsz, fun _ => trivial, rfl⟩
theorem cond_ok {a b : Int} {s u : Span} (h : a = 0 → b = 0 ∧ inS s u) : ((a == 0) && ((!(b == 0)) || (!(law12u_FadeMore_1 (s, u))))) = false := by
 cases ha : (a == 0) with
 | false => rfl
 | true =>
  obtain ⟨h1, h2, h3⟩ := h (by simpa using ha)
  have e : law12u_FadeMore_1 (s, u) = (decide (u.1 ≤ s.1) && decide (s.2 ≤ u.2)) := rfl
  rw [e, h1, decide_eq_true h2, decide_eq_true h3]; rfl
theorem narrow_rich (f : Fading) (c : Check) : Narrow f (f.1, f.2.1, f.2.2.1, f.2.2.2 ++ [c]) :=
 ⟨rfl, rfl, rfl, fun t T => ⟨T.months, T.refs, T.more, T.samples, fun c' hc => T.checks c' (List.mem_append.2 (.inl hc))⟩⟩
structure Thin (l m : List Span) : Prop where
 len : m.length = l.length
 at_ : ∀ j, j < l.length → (l.getD j (0, 0)).1 ≤ (m.getD j (0, 0)).1 ∧ (m.getD j (0, 0)).2 ≤ (l.getD j (0, 0)).2
theorem narrow_thin {f : Fading} {M R : List Span} (h1 : Thin f.1 M) (h2 : Thin f.2.1 R) : Narrow f (M, R, f.2.2) := by
 refine ⟨h1.len, h2.len, rfl, fun t T => ⟨fun j hj => ?_, fun k hk => ?_, fun k hk => ?_, T.samples, T.checks⟩⟩
 ·have a := T.months j (by show j < M.length; rw [h1.len]; exact hj)
  have b := h1.at_ j hj
  simp only at a
  omega
 ·have a := T.refs k (by show k < R.length; rw [h2.len]; exact hk)
  have b := h2.at_ k hk
  simp only at a
  omega
 ·exact T.more k (by show k + 1 < R.length; rw [h2.len]; exact hk)
theorem Thin.refl (l : List Span) : Thin l l := ⟨rfl, fun _ _ => ⟨Int.le_refl _, Int.le_refl _⟩⟩
theorem Thin.set {l : List Span} {i : Nat} {s : Span} (h : (l.getD i (0, 0)).1 ≤ s.1 ∧ s.2 ≤ (l.getD i (0, 0)).2) : Thin l (l.set i s) := by
 refine ⟨List.length_set, fun j hj => ?_⟩
 by_cases e : i = j
 ·subst e
  have : (l.set i s).getD i (0, 0) = s := by simp [List.getD, hj]
  rw [this]; exact h
 ·have : (l.set i s).getD j (0, 0) = l.getD j (0, 0) := by simp [List.getD, List.getElem?_set, e]
  rw [this]; exact ⟨Int.le_refl _, Int.le_refl _⟩
theorem tm_bd {a n : Int} (ha : 0 ≤ a) (hn : 0 < n) : 0 ≤ Int.tmod a n ∧ Int.tmod a n < n :=
 ⟨Int.tmod_nonneg n ha, Int.tmod_lt_of_pos a hn⟩
abbrev noC : Check := (0, 0, 0, false)
theorem tail_ok {f : Fading} {more : Check} {m what index sample by_ : Int} {M R : List Span} (Of : OkC f) (h38 : f.2.2.2.length ≤ 38) (hi : i64 index) (hs : i64 sample) (hb : 0 ≤ by_ ∧ by_ ≤ 255) (hM : Thin f.1 M) (hR : Thin f.2.1 R) :
  tail10 (f, more, m, what, index, sample, by_) M R := by
 have n1 := Of.nm
 have n2 := Of.nr
 have n3 := Of.ns
 have eLaw : law12u_FadeMore (f, more, m, what, index, sample, by_) = true := rfl
 unfold tail10
 rw [eLaw]
 dsimp only
 have e2 : (List.replicate 0 noC) ++ f.2.2.2 = f.2.2.2 := rfl
 have e3 : (List.replicate 1 noC).set 0 more = [more] := rfl
 rw [e2, e3]
 obtain ⟨rich, hrich⟩ : ∃ rich : Fading, rich = (f.1, f.2.1, f.2.2.1, f.2.2.2 ++ [more]) := ⟨_, rfl⟩
 obtain ⟨thin, hthin⟩ : ∃ thin : Fading, thin = (M, R, f.2.2) := ⟨_, rfl⟩
 have e4 : ((List.replicate 2 (([], [], 0, []) : Fading)).set 0 (f.1, f.2.1, f.2.2.1, f.2.2.2 ++ [more])).set 1 (M, R, f.2.2) = [rich, thin] := by rw [hrich, hthin]; rfl
 rw [e4]
 have nR : Narrow f rich := by rw [hrich]; exact narrow_rich f more
 have nT : Narrow f thin := by rw [hthin]; exact narrow_thin hM hR
 have zR : sizeP rich := by rw [hrich]; simp only [sizeP, big, List.length_append, List.length_singleton]; omega
 have zT : sizeP thin := by
  have a := hM.len
  have b := hR.len
  rw [hthin]; simp only [sizeP, big]; omega
 have e5 : (([rich, thin].length : Nat) : Int) = 2 := rfl
 rw [e5]
 refine ⟨fun s => ∃ i : Nat, s = (i : Int) ∧ i ≤ 2, fun s => (2 - s).toNat, ⟨0, rfl, by omega⟩, ?_⟩
 rintro _ ⟨i, rfl, g1⟩
 refine ⟨fun hd => ?_, fun _ => ?_⟩
 ·have hd : (i : Int) < 2 := of_decide_eq_true hd
  obtain ⟨X, hX⟩ : ∃ X, X = [rich, thin].getD (Int.toNat (i : Int)) ([], [], 0, []) := ⟨_, rfl⟩
  have hN : Narrow f X ∧ sizeP X := by
   rw [hX]
   match i, hd with
   | 0, _ => exact ⟨nR, zR⟩
   | 1, _ => exact ⟨nT, zT⟩
   | n + 2, h => omega
  obtain ⟨hN, hsz⟩ := hN
  rw [← hX]
  have c1 : (((fade_Light (X, m)).2 == 0) && ((!((fade_Light (f, m)).2 == 0)) || (!(law12u_FadeMore_1 ((fade_Light (X, m)).1, (fade_Light (f, m)).1))))) = false := cond_ok (light_nar hN Of m)
  have c2 : (((fade_Fast (X, what, index)).2 == 0) && ((!((fade_Fast (f, what, index)).2 == 0)) || (!(law12u_FadeMore_1 ((fade_Fast (X, what, index)).1, (fade_Fast (f, what, index)).1))))) = false := cond_ok (fast_nar hN Of what index)
  have c3 : (((fade_Grade (X, sample)).2 == 0) && ((!((fade_Grade (f, sample)).2 == 0)) || (!(law12u_FadeMore_1 ((fade_Grade (X, sample)).1, (fade_Grade (f, sample)).1))))) = false := cond_ok (grade_nar hN Of sample)
  rw [c1, c2, c3]
  exact ⟨⟨by omega, hd⟩, hsz, hsz, hsz, fun _ => trivial, fun _ => trivial, fun _ => trivial, fun h => (by cases h), fun _ => ⟨by simp only [Z.in64]; omega, rfl, rfl, rfl, rfl, rfl, rfl, rfl, rfl, rfl, rfl, ⟨i + 1, by omega, by omega⟩, by dsimp only; omega⟩⟩
 obtain ⟨b, rfl⟩ : ∃ b : Nat, by_ = (b : Int) := ⟨by_.toNat, by omega⟩
 obtain ⟨cs, hcs⟩ : ∃ cs, cs = f.2.2.2 := ⟨_, rfl⟩
 rw [← hcs] at h38 ⊢
 refine ⟨fun s => ∃ i : Nat, s.1 = (i : Int) ∧ i ≤ cs.length ∧ s.2.1 = f ∧ s.2.2 = (List.range i).map (fun j => swC f.2.2.1 (cs.getD ((j + b) % cs.length) noC)), fun s => ((cs.length : Int) - s.1).toNat, ⟨0, rfl, Nat.zero_le _, rfl, rfl⟩, ?_⟩
 rintro ⟨i0, F, L⟩ ⟨i, h1, g1, h2, h3⟩
 simp only at h1 h2 h3
 subst h1
 rw [h2]
 refine ⟨fun hd => ?_, fun hd => ?_⟩
 ·have hd : (i : Int) < (cs.length : Int) := of_decide_eq_true hd
  have ht := tm_bd (a := (i : Int) + (b : Int)) (n := (cs.length : Int)) (by omega) (by omega)
  have em : Int.toNat (Int.tmod ((i : Int) + (b : Int)) (cs.length : Int)) = (i + b) % cs.length := by
   have : Int.tmod ((i : Int) + (b : Int)) (cs.length : Int) = (((i + b) % cs.length : Nat) : Int) := by
    rw [Int.tmod_eq_emod_of_nonneg (by omega)]; simp
   rw [this]; rfl
  dsimp only
  rw [em]
  obtain ⟨c, hc⟩ : ∃ c, c = cs.getD ((i + b) % cs.length) noC := ⟨_, rfl⟩
  have hcm : c ∈ f.2.2.2 := by rw [hc, ← hcs]; exact getD_mem cs _ _ (Nat.mod_lt _ (by omega))
  have hck := (Of.checks c hcm).2
  have e1 : ∀ v : Check, (List.replicate 1 noC).set 0 v = [v] := fun _ => rfl
  have hll : L.length = i := by rw [h3]; simp
  have hnext : L ++ [swC f.2.2.1 c] = (List.range (i + 1)).map (fun j => swC f.2.2.1 (cs.getD ((j + b) % cs.length) noC)) := by
   rw [h3, List.range_succ, List.map_append, hc]; rfl
  rw [← hc, e1, e1]
  refine ⟨by simp only [Z.in64]; omega, by omega, ht, fun hv => ?_, fun hv => ?_⟩
  ·have hv : c.2.1 = 1 := by simpa using hv
   rw [sw_sample hv] at hnext
   refine ⟨by simp only [Z.in64]; omega, by simp only [Z.in64]; omega, roomy_of (by omega) (by omega) ?_, by simp only [Z.in64]; omega, rfl, rfl, rfl, rfl, rfl, rfl, rfl, rfl, rfl, rfl, ⟨i + 1, by omega, by omega, rfl, hnext⟩, by omega⟩
   simp only [List.length_append, List.length_singleton]; omega
  ·have hv : c.2.1 ≠ 1 := by simpa using hv
   have e9 : swC f.2.2.1 c = c := by unfold swC; rw [show (c.2.1 == 1) = false by rw [beq_eq_false_iff_ne]; exact hv]; rfl
   rw [e9] at hnext
   refine ⟨roomy_of (by omega) (by omega) ?_, by simp only [Z.in64]; omega, rfl, rfl, rfl, rfl, rfl, rfl, rfl, rfl, rfl, rfl, ⟨i + 1, by omega, by omega, rfl, hnext⟩, by omega⟩
   simp only [List.length_append, List.length_singleton]; omega
 have hd : ¬ (i : Int) < (cs.length : Int) := of_decide_eq_false hd
 have hic : i = cs.length := by omega
 rw [hic] at h3
 have hLl : L.length = cs.length := by rw [h3]; simp
 have leaf : ∀ T : Fading, Turned f T → sizeP T ∧ fade_Light (T, m) = fade_Light (f, m) ∧ fade_Grade (T, IntKind.wrap .i64 (f.2.2.1 - 1 - sample)) = fade_Grade (f, sample) ∧ fade_Fast (T, what, ownV f.2.2.1 what index) = fade_Fast (f, what, index) := fun T h => by
  have O := h.ok Of
  have a := O.nm
  have b := O.nr
  have c := O.nc
  exact ⟨by simp only [sizeP, big]; omega, light_turn h Of m, grade_turn h Of hs, fast_turn h Of what hi⟩
 have hU := until_ok (what := what) (index := index) Of hb
 refine ⟨fun h0 => ?_, fun h0 => ?_⟩
 ·have h0 : (0 : Int) < (cs.length : Int) := of_decide_eq_true h0
  have e1 : ∀ v : Check, (List.replicate 1 noC).set 0 v = [v] := fun _ => rfl
  have e0 : Int.toNat 0 = 0 := rfl
  dsimp only
  rw [e0, e1]
  have hsw := swap_loop (l := cs) (S := f.2.2.1) (b := b) (by omega)
  rw [← h3] at hsw
  have hT : Turned f (f.1, f.2.1, f.2.2.1, L ++ [L.getD 0 noC]) := by
   refine ⟨rfl, rfl, rfl, fun c => ?_, by simp only [List.length_append, List.length_singleton]; omega⟩
   rw [← hcs, ← hsw c]
   show c ∈ L ++ [L.getD 0 noC] ↔ _
   rw [List.mem_append, List.mem_singleton]
   exact ⟨fun h => h.elim id fun h => by rw [h]; exact getD_mem L _ 0 (by omega), .inl⟩
  obtain ⟨z, t1, t3, t2⟩ := leaf _ hT
  refine ⟨⟨by omega, by omega⟩, roomy_of (by omega) (by omega) (by simp only [List.length_append, List.length_singleton]; omega), fun hv => ?_, fun hv => ?_⟩
  ·rw [ownV, hv, cond_true] at t2
   rw [t1, t2, t3]
   exact ⟨by simp only [Z.in64]; omega, z, z, by simp only [Z.in64]; omega, z, fun h => (by simp at h), fun _ => hU⟩
  ·rw [ownV, hv, cond_false] at t2
   rw [t1, t2, t3]
   exact ⟨z, z, by simp only [Z.in64]; omega, z, fun h => (by simp at h), fun _ => hU⟩
 ·have h0 : ¬ (0 : Int) < (cs.length : Int) := of_decide_eq_false h0
  have hLn : L = [] := List.eq_nil_of_length_eq_zero (by omega)
  have hcn : cs = [] := List.eq_nil_of_length_eq_zero (by omega)
  dsimp only
  have hT : Turned f (f.1, f.2.1, f.2.2.1, L) := by
   refine ⟨rfl, rfl, rfl, fun c => ?_, by simp only; omega⟩
   rw [← hcs, hcn, hLn]
   simp
  obtain ⟨z, t1, t3, t2⟩ := leaf _ hT
  refine ⟨fun hv => ?_, fun hv => ?_⟩
  ·rw [ownV, hv, cond_true] at t2
   rw [t1, t2, t3]
   exact ⟨by simp only [Z.in64]; omega, z, z, by simp only [Z.in64]; omega, z, fun h => (by simp at h), fun _ => hU⟩
  ·rw [ownV, hv, cond_false] at t2
   rw [t1, t2, t3]
   exact ⟨z, z, by simp only [Z.in64]; omega, z, fun h => (by simp at h), fun _ => hU⟩
theorem v10 (x : Fading × Check × Int × Int × Int × Int × Int) (hx : k10.pre x) : V10 x := by
 obtain ⟨f, more, m, what, index, sample, by_⟩ := x
 obtain ⟨⟨hi, hs⟩, hb⟩ : (i64 index ∧ i64 sample) ∧ 0 ≤ by_ ∧ by_ ≤ 255 := hx
 have eLaw : law12u_FadeMore (f, more, m, what, index, sample, by_) = true := rfl
 rw [V10, eLaw]
 dsimp only
 have eg : law12u_great f = greatB f := rfl
 rw [eg]
 have hsize : greatB f = false → sizeP f := fun h => by
  unfold greatB at h
  simp only [Bool.or_eq_false_iff, decide_eq_false_iff_not] at h
  simp only [sizeP, big]; omega
 refine ⟨trivial, fun h => hsize (by rw [Bool.or_eq_false_iff] at h; exact h.1), fun _ => ⟨trivial, rfl⟩, fun h => ?_⟩
 simp only [Bool.or_eq_false_iff, Bool.not_eq_false', decide_eq_false_iff_not] at h
 obtain ⟨⟨hg, h38⟩, hc⟩ := h
 have Of : OkC f := cards_iff.1 hc
 have n1 := Of.nm
 have n2 := Of.nr
 have n3 := Of.ns
 have z := hsize hg
 have e2 : (List.replicate 0 noC) ++ f.2.2.2 = f.2.2.2 := rfl
 have e3 : (List.replicate 1 noC).set 0 more = [more] := rfl
 have e4 : ∀ l : List Span, (List.replicate 0 ((0 : Int), (0 : Int))) ++ l = l := fun _ => rfl
 rw [e2, e3]
 simp only [e4]
 have T := fun {M R : List Span} (h1 : Thin f.1 M) (h2 : Thin f.2.1 R) => tail_ok (more := more) (m := m) (what := what) Of (show f.2.2.2.length ≤ 38 by omega) hi hs hb h1 h2
 have t9 := tm_bd hb.1 (show (0 : Int) < 9 by omega)
 have t7 := tm_bd hb.1 (show (0 : Int) < 7 by omega)
 have mon : (0 : Int) < (f.1.length : Int) → ∃ i : Nat, Int.tmod by_ (f.1.length : Int) = (i : Int) ∧ i < f.1.length ∧ ((0 ≤ (f.1.getD i (0, 0)).1 ∧ (f.1.getD i (0, 0)).1 ≤ (f.1.getD i (0, 0)).2) ∧ (f.1.getD i (0, 0)).2 ≤ 1000000) := fun h => by
  have t := tm_bd hb.1 h
  refine ⟨(Int.tmod by_ (f.1.length : Int)).toNat, by omega, by omega, Of.months _ (getD_mem f.1 _ _ (by omega))⟩
 have ref : (0 : Int) < (f.2.1.length : Int) → ∃ i : Nat, Int.tmod by_ (f.2.1.length : Int) = (i : Int) ∧ i < f.2.1.length ∧ ((1 ≤ (f.2.1.getD i (0, 0)).1 ∧ (f.2.1.getD i (0, 0)).1 ≤ (f.2.1.getD i (0, 0)).2) ∧ (f.2.1.getD i (0, 0)).2 ≤ 16777216) := fun h => by
  have t := tm_bd hb.1 h
  refine ⟨(Int.tmod by_ (f.2.1.length : Int)).toNat, by omega, by omega, Of.refs _ (getD_mem f.2.1 _ _ (by omega))⟩
 refine ⟨z, z, z, roomy_of (by omega) (by omega) (by omega), roomy_of (by omega) (by omega) (by simp only [List.length_append, List.length_singleton]; omega), roomy_of (by omega) (by omega) (by omega), roomy_of (by omega) (by omega) (by omega), fun hm => ?_, fun hm => ⟨fun hr => ?_, fun hr => T (.refl _) (.refl _)⟩⟩
 ·obtain ⟨i, e, hil, hbd⟩ := mon (of_decide_eq_true hm)
  rw [e]
  have ei : Int.toNat (i : Int) = i := rfl
  rw [ei]
  have tM : Thin f.1 (f.1.set i (min ((f.1.getD i (0, 0)).2) ((f.1.getD i (0, 0)).1 + Int.tmod by_ 9), (f.1.getD i (0, 0)).2)) := Thin.set ⟨by simp only; omega, Int.le_refl _⟩
  refine ⟨by omega, ⟨by omega, by omega⟩, ⟨by omega, by omega⟩, by omega, by simp only [Z.in64]; omega, ⟨by omega, by omega⟩, fun hr => ?_, fun hr => T tM (.refl _)⟩
  obtain ⟨k, e', hkl, hbk⟩ := ref (of_decide_eq_true hr)
  rw [e']
  have ek : Int.toNat (k : Int) = k := rfl
  rw [ek]
  have tR : Thin f.2.1 (f.2.1.set k ((f.2.1.getD k (0, 0)).1, max ((f.2.1.getD k (0, 0)).1) ((f.2.1.getD k (0, 0)).2 - Int.tmod by_ 7))) := Thin.set ⟨Int.le_refl _, by simp only; omega⟩
  exact ⟨by omega, ⟨by omega, by omega⟩, ⟨by omega, by omega⟩, by omega, by simp only [Z.in64]; omega, ⟨by omega, by omega⟩, T tM tR⟩
 ·obtain ⟨k, e', hkl, hbk⟩ := ref (of_decide_eq_true hr)
  rw [e']
  have ek : Int.toNat (k : Int) = k := rfl
  rw [ek]
  have tR : Thin f.2.1 (f.2.1.set k ((f.2.1.getD k (0, 0)).1, max ((f.2.1.getD k (0, 0)).1) ((f.2.1.getD k (0, 0)).2 - Int.tmod by_ 7))) := Thin.set ⟨Int.le_refl _, by simp only; omega⟩
  exact ⟨by omega, ⟨by omega, by omega⟩, ⟨by omega, by omega⟩, by omega, by simp only [Z.in64]; omega, ⟨by omega, by omega⟩, T (.refl _) tR⟩
end Go.Fade
