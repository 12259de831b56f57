/-
  Chapter 3: rules and true heats: what surely is kept is kept.
-/
import Derived.Test.YtfjkenhmaebpmaaFireSpec4
set_option linter.all false
set_option maxRecDepth 100000
set_option linter.unusedVariables false
namespace Go.Fire
open Go Go.Sx
theorem tmod_bd {a n : Int} (ha : 0 ≤ a) (hn : 0 < n) : 0 ≤ Int.tmod a n ∧ Int.tmod a n < n :=
 ⟨Int.tmod_nonneg n ha, Int.tmod_lt_of_pos a hn⟩
def sooner : List Int → List Int → Prop
 | r :: R, t :: T => (0 ≤ t → 0 ≤ r ∧ r ≤ t) ∧ sooner R T
 | [], [] => True
 | _, _ => False
theorem chn_ge : ∀ (n : Int) (R : List Int), (chn n R).1 = 0 ∨ n ≤ (chn n R).1
 | _, [] => .inl rfl
 | n, r :: R => by
  rw [chn]
  cases decide (0 ≤ r) with
  | true => exact .inr (Int.le_refl _)
  | false =>
   rcases chn_ge (n + 1) R with h | h
   ·exact .inl h
   ·exact .inr (by rw [cond_false]; omega)
theorem chn_sooner : ∀ {n : Int} {R T : List Int}, 1 ≤ n → sooner R T → (chn n T).1 = 0 ∨ (n ≤ (chn n R).1 ∧ ((chn n R).1 < (chn n T).1 ∨ ((chn n R).1 = (chn n T).1 ∧ (chn n R).2 ≤ (chn n T).2)))
 | n, [], [], _, _ => .inl rfl
 | n, [], _ :: _, _, h => h.elim
 | n, _ :: _, [], _, h => h.elim
 | n, r :: R, t :: T, hn, h => by
  have ih := chn_sooner (n := n + 1) (by omega) h.2
  have hT := chn_ge (n + 1) T
  rw [chn, chn]
  cases ht : decide (0 ≤ t) with
  | true =>
   have h1 := h.1 (of_decide_eq_true ht)
   rw [decide_eq_true h1.1]
   exact .inr ⟨Int.le_refl _, .inr ⟨rfl, h1.2⟩⟩
  | false =>
   rw [cond_false]
   cases hr : decide (0 ≤ r) with
   | true =>
    rcases hT with hT | hT
    ·exact .inl hT
    ·exact .inr ⟨Int.le_refl _, .inl (by rw [cond_true]; omega)⟩
   | false =>
    rw [cond_false]
    rcases ih with ih | ih
    ·exact .inl ih
    ·exact .inr ⟨by omega, ih.2⟩
theorem first_sooner {l h : List Int} {from_ : Int} {F G : Int × Int → Bool} (hlen : h.length = l.length)
  (hi : ∀ i, i < l.length → from_ ≤ (i : Int) → F (l.getD (i - 1) 0, l.getD i 0) = true → G (h.getD (i - 1) 0, h.getD i 0) = true) :
  ∀ (n i : Nat), l.length ≤ i + n → 0 ≤ firstH from_ G (restOf h i) → (0 ≤ firstH from_ F (restOf l i) ∧ firstH from_ F (restOf l i) ≤ firstH from_ G (restOf h i)) ∧ (i : Int) ≤ firstH from_ G (restOf h i)
 | 0, i, hn, h0 => by rw [firstH_end (by omega)] at h0; omega
 | n + 1, i, hn, h0 => by
  by_cases hil : i < l.length
  ·rw [firstH_step (l := h) (F := G) (by omega)] at h0 ⊢
   rw [firstH_step (l := l) (F := F) hil]
   have ih := first_sooner hlen hi n (i + 1) (by omega)
   cases hg : (decide (from_ ≤ (i : Int)) && !G (h.getD (i - 1) 0, h.getD i 0)) with
   | true =>
    rw [Bool.and_eq_true] at hg
    have hF : F (l.getD (i - 1) 0, l.getD i 0) = false := by
     cases hF : F (l.getD (i - 1) 0, l.getD i 0) with
     | false => rfl
     | true =>
      have := hi i hil (of_decide_eq_true hg.1) hF
      rw [this] at hg; simp at hg
    rw [hg.1, hF]
    simp only [Bool.not_false, Bool.and_self, cond_true]
    omega
   | false =>
    rw [hg, cond_false] at h0
    rw [cond_false]
    obtain ⟨⟨a1, a2⟩, a3⟩ := ih h0
    cases (decide (from_ ≤ (i : Int)) && !F (l.getD (i - 1) 0, l.getD i 0)) with
    | true => simp only [cond_true]; omega
    | false => simp only [cond_false]; omega
  ·rw [firstH_end (by omega)] at h0; omega
theorem first_at {l : List Int} {from_ : Int} {F : Int × Int → Bool} : ∀ (n i : Nat), l.length ≤ i + n → 0 ≤ firstH from_ F (restOf l i) →
  ∃ j : Nat, firstH from_ F (restOf l i) = (j : Int) ∧ j < l.length ∧ from_ ≤ (j : Int) ∧ F (l.getD (j - 1) 0, l.getD j 0) = false
 | 0, i, hn, h0 => by rw [firstH_end (by omega)] at h0; omega
 | n + 1, i, hn, h0 => by
  by_cases hil : i < l.length
  ·rw [firstH_step hil] at h0 ⊢
   cases hg : (decide (from_ ≤ (i : Int)) && !F (l.getD (i - 1) 0, l.getD i 0)) with
   | true =>
    rw [Bool.and_eq_true] at hg
    exact ⟨i, rfl, hil, of_decide_eq_true hg.1, not_iff.1.1 hg.2⟩
   | false =>
    rw [hg, cond_false] at h0
    exact first_at n (i + 1) (by omega) h0
  ·rw [firstH_end (by omega)] at h0; omega
theorem first_none {l : List Int} {from_ : Int} {F : Int × Int → Bool} (h : ∀ i, i < l.length → F (l.getD (i - 1) 0, l.getD i 0) = true) : firstH from_ F (restOf l 0) < 0 := by
 by_cases h0 : 0 ≤ firstH from_ F (restOf l 0)
 ·obtain ⟨j, _, hj, _, hf⟩ := first_at l.length 0 (by omega) h0
  rw [h j hj] at hf; cases hf
 ·omega
theorem runMax_runB {s : Stand} : ∀ (l : List Int) (now best : Int), runMax s l now best = runB (l.map (soakV s)) now best
 | [], _, _ => rfl
 | set :: l, now, best => by
  rw [runMax, List.map_cons, runB, runMax_runB l, runMax_runB l]
theorem runB_mono {α β : Type} {f : α → Bool} {g : β → Bool} : ∀ {l : List α} {r : List β} {now now' best best' : Int}, l.length = r.length → (∀ i, i < l.length → ∀ a b, l[i]? = some a → r[i]? = some b → f a = true → g b = true) → 0 ≤ now ∧ now ≤ now' → best ≤ best' → runB (l.map f) now best ≤ runB (r.map g) now' best'
 | [], [], _, _, _, _, _, _, _, h => h
 | [], _ :: _, _, _, _, _, h, _, _, _ => by simp at h
 | _ :: _, [], _, _, _, _, h, _, _, _ => by simp at h
 | a :: l, b :: r, now, now', best, best', hl, hi, h1, h2 => by
  have hi' : ∀ i, i < l.length → ∀ a b, l[i]? = some a → r[i]? = some b → f a = true → g b = true := fun i h x y hx hy => hi (i + 1) (by simp only [List.length_cons]; omega) x y (by simpa using hx) (by simpa using hy)
  have hl' : l.length = r.length := by simpa using hl
  have h0 := hi 0 (by simp) a b rfl rfl
  rw [List.map_cons, List.map_cons, runB, runB]
  cases hf : f a with
  | true =>
   rw [h0 hf]
   exact runB_mono hl' hi' (by omega) (by omega)
  | false =>
   cases hg : g b with
   | true => exact runB_mono hl' hi' (by omega) (by omega)
   | false => exact runB_mono hl' hi' (by omega) (by omega)
def sureR (s : Stand) (l : List Int) : List Int :=
 [cond (!coldV s (l.getD 0 0) s.2.1.1) 0 (-1), firstH 0 (fun e => coldV s e.2 s.2.1.2.2.1) (restOf l 0),
  firstH ((1 : Nat) : Int) (fun e => slowV s e.1 e.2 s.2.1.2.2.2.2.1) (restOf l 0), firstH ((1 : Nat) : Int) (fun e => slowV s e.2 e.1 s.2.1.2.2.2.2.2) (restOf l 0),
  cond (decide (runMax s l 0 0 < s.2.1.2.2.2.1)) 0 (-1), cond (!coldV s (l.getD (l.length - 1) 0) s.2.1.1) ((l.length : Int) - 1) (-1)]
theorem broken_chn {s : Stand} {l : List Int} (hlen : 1 ≤ l.length) (hh : 1 ≤ s.2.1.2.2.2.1) : fire_stand_broken (s, l) = chn 1 (sureR s l) := by
 have q1 : firstOf (l.take 1) 0 (fun e => coldV s e.2 s.2.1.1) = cond (!coldV s (l.getD 0 0) s.2.1.1) 0 (-1) := by
  cases l with
  | nil => simp at hlen
  | cons a l => rfl
 have hrun := run_held (s := s) (l := l) (now := 0) (best := 0) hh (by omega) (by omega)
 have q5 : cond (heldV s l 0) (-1) (0 : Int) = cond (decide (runMax s l 0 0 < s.2.1.2.2.2.1)) 0 (-1) := by
  rw [hrun]; cases heldV s l 0 <;> rfl
 have q6 : firstOf l ((l.length : Int) - 1) (fun e => coldV s e.2 s.2.1.1) = cond (!coldV s (l.getD (l.length - 1) 0) s.2.1.1) ((l.length : Int) - 1) (-1) := by
  have e1 : (l.length : Int) - 1 = ((l.length - 1 : Nat) : Int) := by omega
  show firstH ((l.length : Int) - 1) (fun e => coldV s e.2 s.2.1.1) (restOf l 0) = _
  rw [e1, firstH_skip (i := l.length - 1) (Nat.le_refl _) (by omega), firstH_step (by omega), decide_eq_true (Int.le_refl _), Bool.true_and, show l.length - 1 + 1 = l.length by omega, firstH_end (Nat.le_refl _)]
 have e : fire_stand_broken (s, l) = chn 1 [firstOf (l.take 1) 0 (fun e => coldV s e.2 s.2.1.1), firstOf l 0 (fun e => coldV s e.2 s.2.1.2.2.1), firstOf l 1 (fun e => slowV s e.1 e.2 s.2.1.2.2.2.2.1), firstOf l 1 (fun e => slowV s e.2 e.1 s.2.1.2.2.2.2.2), cond (heldV s l 0) (-1) 0, firstOf l ((l.length : Int) - 1) (fun e => coldV s e.2 s.2.1.1)] := rfl
 rw [e, q1, q5, q6]; rfl
theorem pick_bd {s : Span} {b : Int} (hs : s.1 ≤ s.2) (hb : 0 ≤ b) : s.1 ≤ pickV s b ∧ pickV s b ≤ s.2 := by
 have := tmod_bd hb (show 0 < s.2 - s.1 + 1 by omega)
 unfold pickV; omega
theorem hour_ok {err : Int} {p : Place} {g o h set : Int} (he : 0 ≤ err ∧ err ≤ 100) (hp : placeB p = true) (hs : setOk set) (hg : p.1.1 ≤ g ∧ g ≤ p.1.2) (ho : p.2.1 ≤ o ∧ o ≤ p.2.2) (hh : max 0 (set - err) ≤ h ∧ h ≤ set + err) :
  (-200000 ≤ g * h + 1000 * o ∧ g * h + 1000 * o ≤ 3350000) ∧ (0 ≤ g * h ∧ g * h ≤ 3150000) ∧ leastV err p set ≤ g * h + 1000 * o ∧ g * h + 1000 * o ≤ mostV err p set := by
 have P := place_iff.1 hp
 obtain ⟨a1, a2⟩ := most_bd he hp hs
 obtain ⟨b1, b2⟩ := least_bd he hp hs
 have l1 : p.1.1 * max 0 (set - err) ≤ g * h := Int.mul_le_mul hg.1 hh.1 (by omega) (by omega)
 have l2 : g * h ≤ p.1.2 * (set + err) := Int.mul_le_mul hg.2 hh.2 (by omega) (by omega)
 unfold leastV at b2
 unfold mostV at a2
 refine ⟨by omega, by omega, ?_, ?_⟩
 ·unfold leastV; omega
 ·unfold mostV; omega
theorem step_ok {s : Stand} {g o h h' before now by_ : Int} (hp : placeB s.2.2 = true) (hg : s.2.2.1.1 ≤ g ∧ g ≤ s.2.2.1.2) (hb : max 0 (before - s.1.2.1) ≤ h) (hn : h' ≤ now + s.1.2.1) (h1 : 1 ≤ by_) (hv : slowV s before now by_ = true) : (g * h' + 1000 * o) - (g * h + 1000 * o) ≤ 1000 * by_ := by
 have P := place_iff.1 hp
 have hv : s.2.2.1.2 * (now + s.1.2.1 - max 0 (before - s.1.2.1)) ≤ 1000 * by_ := of_decide_eq_true hv
 have e : g * h' - g * h = g * (h' - h) := (Int.mul_sub g h' h).symm
 by_cases hd : h' - h ≤ 0
 ·have := Int.mul_nonneg (show 0 ≤ g by omega) (show 0 ≤ -(h' - h) by omega)
  rw [Int.mul_neg] at this
  omega
 ·have := Int.mul_le_mul hg.2 (show h' - h ≤ now + s.1.2.1 - max 0 (before - s.1.2.1) by omega) (by omega) (by omega)
  omega
structure Truth (s : Stand) (l h : List Int) : Prop where
 len : h.length = l.length
 ex : ∃ g o : Int, (s.2.2.1.1 ≤ g ∧ g ≤ s.2.2.1.2) ∧ (s.2.2.2.1 ≤ o ∧ o ≤ s.2.2.2.2) ∧ ∀ i, i < l.length → ∃ x, (max 0 (l.getD i 0 - s.1.2.1) ≤ x ∧ x ≤ l.getD i 0 + s.1.2.1) ∧ h.getD i 0 = g * x + 1000 * o
theorem nn_cond {b : Bool} {x : Int} (h : 0 ≤ cond b x (-1)) : b = true := by
 cases b with
 | true => rfl
 | false => rw [cond_false] at h; omega
theorem at_get {l : List Int} {i : Nat} {a : Int} (h : l[i]? = some a) : a = l.getD i 0 := by
 rw [List.getD_eq_getElem?_getD, h]; rfl
theorem truth_sooner {s : Stand} {l h : List Int} (hs : standOk s) (hl : progB l = true) (t : Truth s l h) : sooner (sureR s l) (trueR s.2.1 h) := by
 obtain ⟨he, hp, hf⟩ := hs
 have P := prog_iff.1 hl
 have F := fire_iff.1 hf
 have hlen := t.len
 obtain ⟨g, o, hg, ho, hx⟩ := t.ex
 have hset : ∀ i, i < l.length → setOk (l.getD i 0) := fun i hi => P.2 _ (getD_mem l 0 i hi)
 have hh : ∀ i, i < l.length → leastV s.1.2.1 s.2.2 (l.getD i 0) ≤ h.getD i 0 ∧ h.getD i 0 ≤ mostV s.1.2.1 s.2.2 (l.getD i 0) := fun i hi => by
  obtain ⟨x, hx1, hx2⟩ := hx i hi
  have := hour_ok he hp (hset i hi) hg ho hx1
  rw [hx2]; exact this.2.2
 have hcold : ∀ i, i < l.length → ∀ c, coldV s (l.getD i 0) c = true → h.getD i 0 ≤ 1000 * c := fun i hi c hc => by
  have : mostV s.1.2.1 s.2.2 (l.getD i 0) ≤ 1000 * c := of_decide_eq_true hc
  have := hh i hi
  omega
 have hstep : ∀ i j, i < l.length → j < l.length → ∀ b, 1 ≤ b → slowV s (l.getD i 0) (l.getD j 0) b = true → h.getD j 0 - h.getD i 0 ≤ 1000 * b := fun i j hi hj b hb hv => by
  obtain ⟨x, hx1, hx2⟩ := hx i hi
  obtain ⟨y, hy1, hy2⟩ := hx j hj
  rw [hx2, hy2]
  exact step_ok hp hg hx1.1 hy1.2 hb hv
 have hL1 := P.1.1
 refine ⟨fun h0 => ?_, fun h0 => ?_, fun h0 => ?_, fun h0 => ?_, fun h0 => ?_, fun h0 => ?_, trivial⟩
 ·have h1 := of_decide_eq_true (nn_cond h0)
  rw [decide_eq_true h1] at h0 ⊢
  cases hc : coldV s (l.getD 0 0) s.2.1.1 with
  | true => have := hcold 0 (by omega) _ hc; omega
  | false => exact ⟨by show (0 : Int) ≤ 0; omega, by show (0 : Int) ≤ 0; omega⟩
 ·exact (first_sooner hlen (fun i hi _ hc => decide_eq_true (hcold i hi _ hc)) l.length 0 (by omega) h0).1
 ·exact (first_sooner hlen (fun i hi hfi hc => decide_eq_true (hstep (i - 1) i (by omega) hi _ F.2.2.1.1 hc)) l.length 0 (by omega) h0).1
 ·exact (first_sooner hlen (fun i hi hfi hc => decide_eq_true (hstep i (i - 1) hi (by omega) _ F.2.2.2.1 hc)) l.length 0 (by omega) h0).1
 ·have h1 := of_decide_eq_true (nn_cond h0)
  rw [decide_eq_true h1] at h0 ⊢
  have hm : runB (l.map (soakV s)) 0 0 ≤ runB (h.map fun n => decide (1000 * s.2.1.2.1 ≤ n)) 0 0 := by
   refine runB_mono hlen.symm (fun i hi a b ha hb hsk => ?_) (by omega) (by omega)
   rw [at_get ha] at hsk
   rw [at_get hb]
   have : 1000 * s.2.1.2.1 ≤ leastV s.1.2.1 s.2.2 (l.getD i 0) := of_decide_eq_true hsk
   have := hh i hi
   exact decide_eq_true (by omega)
  rw [runMax_runB, decide_eq_true (by omega)]
  exact ⟨by show (0 : Int) ≤ 0; omega, by show (0 : Int) ≤ 0; omega⟩
 ·have h1 := of_decide_eq_true (nn_cond h0)
  rw [decide_eq_true h1] at h0 ⊢
  rw [hlen] at h1 h0 ⊢
  cases hc : coldV s (l.getD (l.length - 1) 0) s.2.1.1 with
  | true => have := hcold (l.length - 1) (by omega) _ hc; omega
  | false => simp only [Bool.not_false, cond_true] at h0 ⊢; omega
theorem bads_ge {k : Kiln} {f : Fire} {l : List Int} : ∀ (n i : Nat), ∀ x ∈ badsFrom k f l n i, (i : Int) ≤ x
 | 0, _, x, hx => by cases hx
 | n + 1, i, x, hx => by
  have ih := bads_ge (k := k) (f := f) (l := l) n (i + 1)
  rw [badsFrom] at hx
  cases hb : badAt k f l i with
  | true =>
   rw [hb, cond_true] at hx
   rcases List.mem_cons.1 hx with rfl | hx
   ·omega
   ·have := ih x hx; omega
  | false =>
   rw [hb, cond_false] at hx
   have := ih x hx; omega
theorem at_bad {k : Kiln} {f : Fire} {l B : List Int} {n i a : Nat} (hi : i < n) (ha : a ≤ B.length) (h : B.drop a = badsFrom k f l (n - i) i) :
  (decide ((a : Int) < (B.length : Int)) && (B.getD (Int.toNat (a : Int)) 0 == (i : Int))) = badAt k f l i ∧
  (badAt k f l i = true → a < B.length ∧ B.drop (a + 1) = badsFrom k f l (n - (i + 1)) (i + 1)) ∧ (badAt k f l i = false → B.drop a = badsFrom k f l (n - (i + 1)) (i + 1)) := by
 rw [show n - i = (n - (i + 1)) + 1 by omega, badsFrom] at h
 have eN : Int.toNat (a : Int) = a := by omega
 rw [eN]
 cases hb : badAt k f l i with
 | true =>
  rw [hb, cond_true] at h
  have hal : a < B.length := by
   by_cases hh : a < B.length
   ·exact hh
   ·rw [List.drop_eq_nil_of_le (by omega)] at h; cases h
  rw [drop_getD B 0 a hal] at h
  obtain ⟨e1, e2⟩ := List.cons.inj h
  exact ⟨by rw [decide_eq_true (by omega), e1, beq_self_eq_true]; rfl, fun _ => ⟨hal, e2⟩, fun h => by cases h⟩
 | false =>
  rw [hb, cond_false] at h
  refine ⟨?_, fun h => (by cases h), fun _ => h⟩
  by_cases hal : a < B.length
  ·rw [drop_getD B 0 a hal] at h
   have := bads_ge (k := k) (f := f) (l := l) (n - (i + 1)) (i + 1) (B.getD a 0) (by rw [← h]; exact List.mem_cons_self)
   rw [show (B.getD a 0 == (i : Int)) = false by rw [beq_eq_false_iff_ne]; omega, Bool.and_false]
  ·rw [decide_eq_false (by omega), Bool.false_and]
theorem why_eq {k : Kiln} {f : Fire} {l : List Int} (hk : kilnB k = true) (hf : fireB f = true) (hl : progB l = true) {p : Int} (h0 : 0 ≤ p) (h1 : p < (k.1.length : Int)) :
  fire_Why (k, f, l, p) = cond ((fire_stand_broken (standAt k f p, l)).1 == 0) (0, 0, 4) ((fire_stand_broken (standAt k f p, l)).1, (fire_stand_broken (standAt k f p, l)).2, 0) := by
 show whyV k f l p = _
 rw [whyV, check_ok.2 ⟨hk, hf, hl⟩, inB_iff.2 (show 0 ≤ p ∧ p ≤ (k.1.length : Int) - 1 by omega)]; rfl
end Go.Fire
