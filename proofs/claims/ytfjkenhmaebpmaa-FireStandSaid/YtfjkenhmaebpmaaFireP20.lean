/-
  Chapter 3: theory of the batches that stand: as many as can, the first list of those, in whichever order.
-/
import Derived.Test.YtfjkenhmaebpmaaFireSpec6
set_option linter.all false
set_option maxRecDepth 100000
set_option linter.unusedVariables false
namespace Go.Fire
open Go Go.Sx
theorem two_powI (p : Nat) : (2 : Int) ^ p = ((2 ^ p : Nat) : Int) := by rw [Int.natCast_pow]; rfl
theorem taken_bit {t : Int} (ht : 0 ≤ t) (p : Nat) : takenB t (p : Int) = t.toNat.testBit p := by
 obtain ⟨m, rfl⟩ : ∃ m : Nat, t = (m : Int) := ⟨t.toNat, by omega⟩
 have e : Int.fdiv ((m : Nat) : Int) (2 ^ p) = ((m / 2 ^ p : Nat) : Int) := by
  rw [two_powI, Int.fdiv_eq_ediv_of_nonneg _ (Int.natCast_nonneg _), Int.natCast_ediv]
 unfold takenB
 rw [Int.toNat_natCast, e, Int.toNat_natCast, Int.toNat_natCast, Nat.testBit_eq_decide_div_mod_eq]
 show ((((m / 2 ^ p) &&& 1 : Nat) : Int) == 1) = _
 rw [Nat.and_one_is_mod]
 have h : m / 2 ^ p % 2 = 0 ∨ m / 2 ^ p % 2 = 1 := by omega
 rcases h with h | h <;> rw [h] <;> rfl
theorem take_nonneg (t p : Int) : 0 ≤ takeV t p := Int.natCast_nonneg _
theorem taken_take {t : Int} (ht : 0 ≤ t) (p q : Nat) : takenB (takeV t (p : Int)) (q : Int) = (takenB t (q : Int) || decide (p = q)) := by
 have e : ((1 : Int) * 2 ^ ((p : Int).toNat)).toNat = 2 ^ p := by rw [Int.one_mul, Int.toNat_natCast, two_powI, Int.toNat_natCast]
 rw [taken_bit (take_nonneg _ _), taken_bit ht]
 unfold takeV
 rw [e, Int.toNat_natCast, Nat.testBit_or, Nat.testBit_two_pow]
theorem taken_zero (q : Nat) : takenB 0 (q : Int) = false := by
 rw [taken_bit (Int.le_refl _)]; exact Nat.zero_testBit q
variable (np : Nat) (F : Fire → Int → Bool)
def okL (f : Fire) (t : Int) (p : Nat) : Bool := !takenB t (p : Int) && F f (p : Int)
def stepL (next : Int → Int) (f : Fire) (t acc : Int) (p : Nat) : Int := cond (okL F f t p) (max acc (1 + next (takeV t (p : Int)))) acc
def manyL : List Fire → Int → Int
 | [], _ => 0
 | f :: l, t => (List.range np).foldl (stepL F (manyL l) f t) (manyL l t)
def placeL (f : Fire) (l : List Fire) (t : Int) : Nat → Nat → Int
 | 0, _ => -1
 | n + 1, p => cond (okL F f t p && 1 + manyL np F l (takeV t (p : Int)) == manyL np F (f :: l) t) (p : Int) (placeL f l t n (p + 1))
def standL : List Fire → Int → List Int
 | [], _ => []
 | f :: l, t => placeL np F f l t np 0 :: standL l (cond (placeL np F f l t np 0 == -1) t (takeV t (placeL np F f l t np 0)))
def cntL : List Fire → List Int → Int → Int
 | f :: l, p :: r, t => cond (p == -1) (cntL l r t) (cond (((decide (p < 0) || decide ((np : Int) ≤ p)) || takenB t p) || !F f p) (-1) (cond (decide (cntL l r (takeV t p) < 0)) (-1) (1 + cntL l r (takeV t p))))
 | _, _, _ => 0
variable {np : Nat} {F : Fire → Int → Bool}
section folds
variable {next : Int → Int} {f : Fire} {t : Int}
theorem fold_ge : ∀ {r : List Nat} {acc : Int}, acc ≤ r.foldl (stepL F next f t) acc
 | [], _ => Int.le_refl _
 | p :: r, acc => by
  rw [List.foldl_cons]
  refine Int.le_trans ?_ (fold_ge (r := r))
  unfold stepL
  cases okL F f t p with
  | true => simp only [cond_true]; omega
  | false => exact Int.le_refl _
theorem fold_at : ∀ {r : List Nat} {acc : Int} {p : Nat}, p ∈ r → okL F f t p = true → 1 + next (takeV t (p : Int)) ≤ r.foldl (stepL F next f t) acc
 | q :: r, acc, p, hp, ho => by
  rw [List.foldl_cons]
  rcases List.mem_cons.1 hp with rfl | hp
  ·refine Int.le_trans ?_ (fold_ge (r := r))
   unfold stepL
   rw [ho]; simp only [cond_true]; omega
  ·exact fold_at hp ho
theorem fold_or : ∀ {r : List Nat} {acc : Int}, r.foldl (stepL F next f t) acc = acc ∨ ∃ p ∈ r, okL F f t p = true ∧ r.foldl (stepL F next f t) acc = 1 + next (takeV t (p : Int))
 | [], _ => .inl rfl
 | q :: r, acc => by
  rw [List.foldl_cons]
  rcases fold_or (r := r) (acc := stepL F next f t acc q) with h | ⟨p, hp, ho, h⟩
  ·rw [h]
   unfold stepL
   cases ho : okL F f t q with
   | false => exact .inl rfl
   | true =>
    simp only [cond_true]
    rcases Int.le_total (1 + next (takeV t (q : Int))) acc with hle | hle
    ·exact .inl (by omega)
    ·exact .inr ⟨q, List.mem_cons_self, ho, by omega⟩
  ·exact .inr ⟨p, List.mem_cons_of_mem _ hp, ho, h⟩
end folds
theorem many_nonneg : ∀ (l : List Fire) (t : Int), 0 ≤ manyL np F l t
 | [], _ => Int.le_refl _
 | f :: l, t => Int.le_trans (many_nonneg l t) fold_ge
theorem many_step {f : Fire} {l : List Fire} {t : Int} {p : Nat} (hp : p < np) (ho : okL F f t p = true) : 1 + manyL np F l (takeV t (p : Int)) ≤ manyL np F (f :: l) t :=
 fold_at (List.mem_range.2 hp) ho
theorem many_skip {f : Fire} {l : List Fire} {t : Int} : manyL np F l t ≤ manyL np F (f :: l) t := fold_ge
theorem cnt_many : ∀ {l : List Fire} {s : List Int} {t : Int}, l.length = s.length → cntL np F l s t ≤ manyL np F l t
 | [], [], _, _ => Int.le_refl _
 | [], _ :: _, _, h => by simp at h
 | _ :: _, [], _, h => by simp at h
 | f :: l, p :: r, t, h => by
  have hl : l.length = r.length := by simpa using h
  rw [cntL]
  cases hp : (p == -1) with
  | true => exact Int.le_trans (cnt_many hl) many_skip
  | false =>
   cases hb : (((decide (p < 0) || decide ((np : Int) ≤ p)) || takenB t p) || !F f p) with
   | true => have := many_nonneg (np := np) (F := F) (f :: l) t; simp only [cond_true, cond_false]; omega
   | false =>
    simp only [Bool.or_eq_false_iff, decide_eq_false_iff_not, Bool.not_eq_false'] at hb
    obtain ⟨⟨⟨b1, b2⟩, b3⟩, b4⟩ := hb
    obtain ⟨q, rfl⟩ : ∃ q : Nat, p = (q : Int) := ⟨p.toNat, by omega⟩
    have h1 := many_step (l := l) (show q < np by omega) (show okL F f t q = true by unfold okL; rw [b3, b4]; rfl)
    have h2 := cnt_many (t := takeV t (q : Int)) hl
    have h3 := many_nonneg (np := np) (F := F) (f :: l) t
    simp only [cond_false]
    cases hd : decide (cntL np F l r (takeV t (q : Int)) < 0) with
    | true => simp only [cond_true]; omega
    | false => simp only [cond_false]; omega
def placeP (np : Nat) (F : Fire → Int → Bool) (f : Fire) (l : List Fire) (t : Int) (q : Nat) : Prop := okL F f t q = true ∧ 1 + manyL np F l (takeV t (q : Int)) = manyL np F (f :: l) t
theorem place_spec {f : Fire} {l : List Fire} {t : Int} : ∀ {n p : Nat}, (placeL np F f l t n p = -1 ∧ ∀ q, p ≤ q → q < p + n → ¬ placeP np F f l t q) ∨ ∃ q, p ≤ q ∧ q < p + n ∧ placeL np F f l t n p = (q : Int) ∧ placeP np F f l t q ∧ ∀ q', p ≤ q' → q' < q → ¬ placeP np F f l t q'
 | 0, p => .inl ⟨rfl, fun q h1 h2 => by omega⟩
 | n + 1, p => by
  rw [placeL]
  cases hc : (okL F f t p && 1 + manyL np F l (takeV t (p : Int)) == manyL np F (f :: l) t) with
  | true =>
   rw [Bool.and_eq_true, beq_iff_eq] at hc
   exact .inr ⟨p, Nat.le_refl _, by omega, rfl, hc, fun q' h1 h2 => by omega⟩
  | false =>
   have hn : ¬ placeP np F f l t p := fun h => by
    have : (okL F f t p && 1 + manyL np F l (takeV t (p : Int)) == manyL np F (f :: l) t) = true := by
     rw [Bool.and_eq_true, beq_iff_eq]; exact h
    rw [hc] at this; cases this
   rw [cond_false]
   have hx : ∀ q, p ≤ q → (q = p ∨ p + 1 ≤ q) := fun q h => by omega
   rcases place_spec (f := f) (l := l) (t := t) (n := n) (p := p + 1) with ⟨h1, h2⟩ | ⟨q, h1, h2, h3, h4, h5⟩
   ·refine .inl ⟨h1, fun q q1 q2 => ?_⟩
    rcases hx q q1 with rfl | hq
    ·exact hn
    ·exact h2 q hq (by omega)
   ·refine .inr ⟨q, by omega, by omega, h3, h4, fun q' q1 q2 => ?_⟩
    rcases hx q' q1 with rfl | hq
    ·exact hn
    ·exact h5 q' hq q2
theorem stand_length : ∀ (l : List Fire) (t : Int), (standL np F l t).length = l.length
 | [], _ => rfl
 | f :: l, t => by rw [standL, List.length_cons, List.length_cons, stand_length l]
theorem stand_cnt : ∀ {l : List Fire} {t : Int}, cntL np F l (standL np F l t) t = manyL np F l t
 | [], _ => rfl
 | f :: l, t => by
  rw [standL, cntL]
  rcases place_spec (np := np) (F := F) (f := f) (l := l) (t := t) (n := np) (p := 0) with ⟨h1, h2⟩ | ⟨q, h1, h2, h3, h4, _⟩
  ·rw [h1]
   show cntL np F l (standL np F l t) t = _
   rw [stand_cnt]
   rcases fold_or (F := F) (next := manyL np F l) (f := f) (t := t) (r := List.range np) (acc := manyL np F l t) with h | ⟨p, hp, ho, h⟩
   ·exact h.symm
   ·exact absurd ⟨ho, h.symm⟩ (h2 p (Nat.zero_le _) (by have := List.mem_range.1 hp; omega))
  ·rw [h3]
   have e1 : (((q : Nat) : Int) == -1) = false := by rw [beq_eq_false_iff_ne]; omega
   have ho := h4.1
   unfold okL at ho
   rw [Bool.and_eq_true, Bool.not_eq_true'] at ho
   rw [e1, cond_false, cond_false, stand_cnt, ho.1, ho.2, decide_eq_false (show ¬ ((q : Nat) : Int) < 0 by omega), decide_eq_false (show ¬ (np : Int) ≤ (q : Int) by omega), decide_eq_false (show ¬ manyL np F l (takeV t (q : Int)) < 0 by have := many_nonneg (np := np) (F := F) l (takeV t (q : Int)); omega)]
   exact h4.2
theorem stand_lex : ∀ {l : List Fire} {s : List Int} {t : Int}, l.length = s.length → cntL np F l s t = manyL np F l t → s = standL np F l t ∨
  ∃ i, i < l.length ∧ (∀ j, j < i → (standL np F l t).getD j 0 = s.getD j 0) ∧ (standL np F l t).getD i 0 ≠ s.getD i 0 ∧ (standL np F l t).getD i 0 ≠ -1 ∧ (s.getD i 0 = -1 ∨ (standL np F l t).getD i 0 < s.getD i 0)
 | [], [], _, _, _ => .inl rfl
 | [], _ :: _, _, h, _ => by simp at h
 | _ :: _, [], _, h, _ => by simp at h
 | f :: l, p :: r, t, h, hc => by
  have hl : l.length = r.length := by simpa using h
  have hP := place_spec (np := np) (F := F) (f := f) (l := l) (t := t) (n := np) (p := 0)
  have hS : standL np F (f :: l) t = placeL np F f l t np 0 :: standL np F l (cond (placeL np F f l t np 0 == -1) t (takeV t (placeL np F f l t np 0))) := rfl
  obtain ⟨P, hPe⟩ : ∃ P, P = placeL np F f l t np 0 := ⟨_, rfl⟩
  rw [← hPe] at hP hS
  have tail : ∀ t', cntL np F l r t' = manyL np F l t' → P = p → t' = cond (P == -1) t (takeV t P) → p :: r = standL np F (f :: l) t ∨
    ∃ i, i < (f :: l).length ∧ (∀ j, j < i → (standL np F (f :: l) t).getD j 0 = (p :: r).getD j 0) ∧ (standL np F (f :: l) t).getD i 0 ≠ (p :: r).getD i 0 ∧ (standL np F (f :: l) t).getD i 0 ≠ -1 ∧ ((p :: r).getD i 0 = -1 ∨ (standL np F (f :: l) t).getD i 0 < (p :: r).getD i 0) := fun t' h1 h2 h3 => by
   rw [hS, ← h3, h2]
   rcases stand_lex hl h1 with e | ⟨i, i1, i2, i3, i4, i5⟩
   ·exact .inl (by rw [e])
   ·refine .inr ⟨i + 1, by simpa using i1, fun j hj => ?_, i3, i4, i5⟩
    cases j with
    | zero => rfl
    | succ j => exact i2 j (by omega)
  have diff : P ≠ p → P ≠ -1 → (p = -1 ∨ P < p) → p :: r = standL np F (f :: l) t ∨
    ∃ i, i < (f :: l).length ∧ (∀ j, j < i → (standL np F (f :: l) t).getD j 0 = (p :: r).getD j 0) ∧ (standL np F (f :: l) t).getD i 0 ≠ (p :: r).getD i 0 ∧ (standL np F (f :: l) t).getD i 0 ≠ -1 ∧ ((p :: r).getD i 0 = -1 ∨ (standL np F (f :: l) t).getD i 0 < (p :: r).getD i 0) := fun h1 h2 h3 => by
   rw [hS]
   exact .inr ⟨0, by simp, fun j hj => by omega, h1, h2, h3⟩
  rw [cntL] at hc
  cases hp : (p == -1) with
  | true =>
   have hp1 : p = -1 := by simpa using hp
   rw [hp, cond_true] at hc
   by_cases he : P = p
   ·refine tail t ?_ he ?_
    ·have h1 := cnt_many (np := np) (F := F) (t := t) hl
     have h2 := many_skip (np := np) (F := F) (f := f) (l := l) (t := t)
     omega
    ·rw [he, hp]; rfl
   ·exact diff he (fun h => he (by rw [h, hp1])) (.inl hp1)
  | false =>
   have hp1 : p ≠ -1 := by simpa using hp
   rw [hp, cond_false] at hc
   have hm0 := many_nonneg (np := np) (F := F) (f :: l) t
   cases hb : (((decide (p < 0) || decide ((np : Int) ≤ p)) || takenB t p) || !F f p) with
   | true => rw [hb, cond_true] at hc; omega
   | false =>
    rw [hb, cond_false] at hc
    simp only [Bool.or_eq_false_iff, decide_eq_false_iff_not, Bool.not_eq_false'] at hb
    obtain ⟨⟨⟨b1, b2⟩, b3⟩, b4⟩ := hb
    obtain ⟨q, rfl⟩ : ∃ q : Nat, p = (q : Int) := ⟨p.toNat, by omega⟩
    have ho : okL F f t q = true := by unfold okL; rw [b3, b4]; rfl
    have h1 := many_step (l := l) (show q < np by omega) ho
    have h2 := cnt_many (np := np) (F := F) (t := takeV t (q : Int)) hl
    cases hd : decide (cntL np F l r (takeV t (q : Int)) < 0) with
    | true => rw [hd, cond_true] at hc; omega
    | false =>
     rw [hd, cond_false] at hc
     have hpp : placeP np F f l t q := ⟨ho, by omega⟩
     rcases hP with ⟨g1, g2⟩ | ⟨q0, g1, g2, g3, g4, g5⟩
     ·exact absurd hpp (g2 q (Nat.zero_le _) (by omega))
     ·by_cases hq : q0 = q
      ·subst hq
       refine tail (takeV t (q0 : Int)) (by omega) g3 ?_
       rw [g3, show (((q0 : Nat) : Int) == -1) = false by rw [beq_eq_false_iff_ne]; omega]; rfl
      ·by_cases hlt : q0 < q
       ·exact diff (by omega) (by omega) (.inr (by omega))
       ·exact absurd hpp (g5 q (Nat.zero_le _) (by omega))
def pos (z : List (Fire × Int)) : List Int := (z.map Prod.snd).filter fun p => !(p == -1)
structure OkZ (np : Nat) (F : Fire → Int → Bool) (z : List (Fire × Int)) (t : Int) : Prop where
 at_ : ∀ x ∈ z, x.2 = -1 ∨ ((0 ≤ x.2 ∧ x.2 < (np : Int)) ∧ F x.1 x.2 = true ∧ takenB t x.2 = false)
 nodup : (pos z).Nodup
theorem pos_cons_none {f : Fire} {p : Int} {z : List (Fire × Int)} (h : (p == -1) = true) : pos ((f, p) :: z) = pos z := by
 unfold pos
 rw [List.map_cons, List.filter_cons_of_neg (by simpa using h)]
theorem pos_cons {f : Fire} {p : Int} {z : List (Fire × Int)} (h : (p == -1) = false) : pos ((f, p) :: z) = p :: pos z := by
 unfold pos
 rw [List.map_cons, List.filter_cons_of_pos (by simpa using h)]
theorem mem_pos {p : Int} {z : List (Fire × Int)} : p ∈ pos z ↔ p ≠ -1 ∧ ∃ f, (f, p) ∈ z := by
 unfold pos
 rw [List.mem_filter, List.mem_map]
 constructor
 ·rintro ⟨⟨⟨f, q⟩, h1, rfl⟩, h2⟩
  exact ⟨by simpa using h2, f, h1⟩
 ·rintro ⟨h, f, h1⟩
  exact ⟨⟨(f, p), h1, rfl⟩, by simpa using h⟩
theorem cnt_ok : ∀ {l : List Fire} {s : List Int} {t : Int}, 0 ≤ t → l.length = s.length → (OkZ np F (l.zip s) t ∧ cntL np F l s t = ((pos (l.zip s)).length : Int)) ∨ (¬ OkZ np F (l.zip s) t ∧ cntL np F l s t = -1)
 | [], [], _, _, _ => .inl ⟨⟨fun x hx => (by cases hx), .nil⟩, rfl⟩
 | [], _ :: _, _, _, h => by simp at h
 | _ :: _, [], _, _, h => by simp at h
 | f :: l, p :: r, t, ht, h => by
  have hl : l.length = r.length := by simpa using h
  rw [cntL, List.zip_cons_cons]
  cases hp : (p == -1) with
  | true =>
   have hp1 : p = -1 := by simpa using hp
   rw [cond_true, pos_cons_none hp]
   have e : OkZ np F ((f, p) :: l.zip r) t ↔ OkZ np F (l.zip r) t := ⟨fun h => ⟨fun x hx => h.at_ x (List.mem_cons_of_mem _ hx), by rw [← pos_cons_none (f := f) hp]; exact h.nodup⟩,
    fun h => ⟨fun x hx => by
     rcases List.mem_cons.1 hx with rfl | hx
     ·exact .inl hp1
     ·exact h.at_ x hx, by rw [pos_cons_none hp]; exact h.nodup⟩⟩
   rw [e]
   exact cnt_ok ht hl
  | false =>
   have hp1 : p ≠ -1 := by simpa using hp
   rw [cond_false, pos_cons hp]
   cases hb : (((decide (p < 0) || decide ((np : Int) ≤ p)) || takenB t p) || !F f p) with
   | true =>
    refine .inr ⟨fun hz => ?_, rfl⟩
    rcases hz.at_ (f, p) List.mem_cons_self with h1 | ⟨h1, h2, h3⟩
    ·exact hp1 h1
    ·simp only at h1 h2 h3
     rw [h2, h3, decide_eq_false (show ¬ p < 0 by omega), decide_eq_false (show ¬ (np : Int) ≤ p by omega)] at hb
     cases hb
   | false =>
    rw [cond_false]
    simp only [Bool.or_eq_false_iff, decide_eq_false_iff_not, Bool.not_eq_false'] at hb
    obtain ⟨⟨⟨b1, b2⟩, b3⟩, b4⟩ := hb
    obtain ⟨q, rfl⟩ : ∃ q : Nat, p = (q : Int) := ⟨p.toNat, by omega⟩
    have hbit : ∀ y : Int, 0 ≤ y → (takenB (takeV t (q : Int)) y = false ↔ takenB t y = false ∧ y ≠ (q : Int)) := fun y hy => by
     obtain ⟨m, rfl⟩ : ∃ m : Nat, y = (m : Int) := ⟨y.toNat, by omega⟩
     rw [taken_take ht, Bool.or_eq_false_iff, decide_eq_false_iff_not]
     exact ⟨fun h => ⟨h.1, by omega⟩, fun h => ⟨h.1, by omega⟩⟩
    have e : OkZ np F ((f, (q : Int)) :: l.zip r) t ↔ OkZ np F (l.zip r) (takeV t (q : Int)) := by
     constructor
     ·intro h
      have hnd := h.nodup
      rw [pos_cons hp] at hnd
      obtain ⟨n1, n2⟩ := List.nodup_cons.1 hnd
      refine ⟨fun x hx => ?_, n2⟩
      rcases h.at_ x (List.mem_cons_of_mem _ hx) with h1 | ⟨h1, h2, h3⟩
      ·exact .inl h1
      ·by_cases hm : x.2 = -1
       ·exact .inl hm
       ·refine .inr ⟨h1, h2, (hbit _ h1.1).2 ⟨h3, fun he => n1 (mem_pos.2 ⟨hp1, x.1, ?_⟩)⟩⟩
        rw [← he]; exact hx
     ·intro h
      refine ⟨fun x hx => ?_, ?_⟩
      ·rcases List.mem_cons.1 hx with rfl | hx
       ·exact .inr ⟨⟨by show (0 : Int) ≤ (q : Int); omega, by show (q : Int) < (np : Int); omega⟩, b4, b3⟩
       ·rcases h.at_ x hx with h1 | ⟨h1, h2, h3⟩
        ·exact .inl h1
        ·exact .inr ⟨h1, h2, ((hbit _ h1.1).1 h3).1⟩
      ·rw [pos_cons hp]
       refine List.nodup_cons.2 ⟨fun hm => ?_, h.nodup⟩
       obtain ⟨_, g, hg⟩ := mem_pos.1 hm
       rcases h.at_ _ hg with h1 | ⟨h1, h2, h3⟩
       ·exact hp1 h1
       ·exact ((hbit _ h1.1).1 h3).2 rfl
    rw [e]
    rcases cnt_ok (take_nonneg t (q : Int)) hl with ⟨h1, h2⟩ | ⟨h1, h2⟩
    ·rw [h2, decide_eq_false (by omega)]
     exact .inl ⟨h1, by rw [cond_false, List.length_cons]; omega⟩
    ·rw [h2]
     exact .inr ⟨h1, rfl⟩
theorem pos_perm {z z' : List (Fire × Int)} (h : z.Perm z') : (pos z).Perm (pos z') := (h.map _).filter _
theorem ok_perm {z z' : List (Fire × Int)} {t : Int} (h : z.Perm z') (o : OkZ np F z t) : OkZ np F z' t :=
 ⟨fun x hx => o.at_ x (h.mem_iff.2 hx), (pos_perm h).nodup_iff.1 o.nodup⟩
theorem many_perm_le {l l' : List Fire} {s s' : List Int} {t : Int} (ht : 0 ≤ t) (hl : l.length = s.length) (hl' : l'.length = s'.length) (h : (l.zip s).Perm (l'.zip s')) (hc : 0 ≤ cntL np F l s t) : cntL np F l s t ≤ manyL np F l' t := by
 rcases cnt_ok (np := np) (F := F) ht hl with ⟨h1, h2⟩ | ⟨_, h2⟩
 ·rcases cnt_ok (np := np) (F := F) ht hl' with ⟨h3, h4⟩ | ⟨h3, _⟩
  ·have := cnt_many (np := np) (F := F) (t := t) hl'
   have e := (pos_perm h).length_eq
   rw [h2, e, ← h4]; exact this
  ·exact absurd (ok_perm h h1) h3
 ·omega
theorem turn_perm {α : Type} (l : List α) (n : Nat) : l.Perm (l.drop n ++ l.take n) := by
 have h := List.perm_append_comm (l₁ := l.take n) (l₂ := l.drop n)
 rwa [List.take_append_drop] at h
theorem zip_turn {l : List Fire} {s : List Int} (h : l.length = s.length) (n : Nat) : (l.drop n ++ l.take n).zip (s.drop n ++ s.take n) = (l.zip s).drop n ++ (l.zip s).take n := by
 rw [List.zip_append (by rw [List.length_drop, List.length_drop, h])]
 simp [List.zip, List.drop_zipWith, List.take_zipWith]
theorem many_turn_le (l : List Fire) (n : Nat) : manyL np F l 0 ≤ manyL np F (l.drop n ++ l.take n) 0 := by
 have hl := (stand_length (np := np) (F := F) l 0).symm
 have hc := stand_cnt (np := np) (F := F) (l := l) (t := 0)
 rw [← hc]
 refine many_perm_le (s' := (standL np F l 0).drop n ++ (standL np F l 0).take n) (Int.le_refl _) hl (by simp [← hl]) ?_ (by rw [hc]; exact many_nonneg _ _)
 rw [zip_turn hl n]
 exact turn_perm _ _
theorem many_turn (l : List Fire) {n : Nat} (hn : n ≤ l.length) : manyL np F (l.drop n ++ l.take n) 0 = manyL np F l 0 := by
 have h1 := many_turn_le (np := np) (F := F) l n
 have h2 := many_turn_le (np := np) (F := F) (l.drop n ++ l.take n) (l.length - n)
 have e : (l.drop n ++ l.take n).drop (l.length - n) ++ (l.drop n ++ l.take n).take (l.length - n) = l := by
  have hd : (l.drop n).length = l.length - n := List.length_drop
  rw [List.drop_append_of_le_length (by omega), List.take_append_of_le_length (by omega), ← hd, List.drop_length, List.take_length, List.nil_append, List.take_append_drop]
 rw [e] at h2
 omega
theorem no_free {l : List Fire} {i q : Nat} (hi : i < l.length) (hq : q < np) (hp : (standL np F l 0).getD i 0 = -1) (hfree : (q : Int) ∉ standL np F l 0) (d : Fire) : F (l.getD i d) (q : Int) = false := by
 cases hF : F (l.getD i d) (q : Int) with
 | false => rfl
 | true =>
  exfalso
  obtain ⟨S, hS⟩ : ∃ S, S = standL np F l 0 := ⟨_, rfl⟩
  have hlen : l.length = S.length := by rw [hS, stand_length]
  have hc : cntL np F l S 0 = manyL np F l 0 := by rw [hS]; exact stand_cnt
  rw [← hS] at hp hfree
  have e1 : l = l.take i ++ l.getD i d :: l.drop (i + 1) := by rw [← drop_getD l d i hi, List.take_append_drop]
  have e2 : S = S.take i ++ -1 :: S.drop (i + 1) := by rw [← hp, ← drop_getD S 0 i (by omega), List.take_append_drop]
  have ht : (l.take i).length = (S.take i).length := by rw [List.length_take, List.length_take, hlen]
  have z1 : l.zip S = (l.take i).zip (S.take i) ++ (l.getD i d, -1) :: (l.drop (i + 1)).zip (S.drop (i + 1)) := by
   conv => lhs; rw [e1, e2]
   rw [List.zip_append ht, List.zip_cons_cons]
  have z2 : l.zip (S.take i ++ (q : Int) :: S.drop (i + 1)) = (l.take i).zip (S.take i) ++ (l.getD i d, (q : Int)) :: (l.drop (i + 1)).zip (S.drop (i + 1)) := by
   conv => lhs; rw [e1]
   rw [List.zip_append ht, List.zip_cons_cons]
  obtain ⟨A, hA⟩ : ∃ A, A = (l.take i).zip (S.take i) := ⟨_, rfl⟩
  obtain ⟨B, hB⟩ : ∃ B, B = (l.drop (i + 1)).zip (S.drop (i + 1)) := ⟨_, rfl⟩
  rw [← hA, ← hB] at z1 z2
  have p1 : (l.zip S).Perm ((l.getD i d, -1) :: (A ++ B)) := by rw [z1]; exact List.perm_middle
  have p2 : (l.zip (S.take i ++ (q : Int) :: S.drop (i + 1))).Perm ((l.getD i d, (q : Int)) :: (A ++ B)) := by rw [z2]; exact List.perm_middle
  have hl2 : l.length = (S.take i ++ (q : Int) :: S.drop (i + 1)).length := by
   rw [List.length_append, List.length_cons, List.length_take, List.length_drop]; omega
  have m0 := many_nonneg (np := np) (F := F) l 0
  rcases cnt_ok (np := np) (F := F) (Int.le_refl 0) hlen with ⟨h1, h2⟩ | ⟨_, h2⟩
  ·have ho := ok_perm p1 h1
   have hq1 : ((q : Int) == -1) = false := by rw [beq_eq_false_iff_ne]; omega
   have hnq : (q : Int) ∉ pos (A ++ B) := fun hm => by
    obtain ⟨_, g, hg⟩ := mem_pos.1 hm
    have : (g, (q : Int)) ∈ l.zip S := p1.mem_iff.2 (List.mem_cons_of_mem _ hg)
    exact hfree (List.of_mem_zip this).2
   have hnd := ho.nodup
   rw [pos_cons_none (by rfl)] at hnd
   have ho2 : OkZ np F ((l.getD i d, (q : Int)) :: (A ++ B)) 0 := ⟨fun x hx => by
    rcases List.mem_cons.1 hx with rfl | hx
    ·exact .inr ⟨⟨by show (0 : Int) ≤ (q : Int); omega, by show (q : Int) < (np : Int); omega⟩, hF, taken_zero q⟩
    ·exact ho.at_ x (List.mem_cons_of_mem _ hx), by rw [pos_cons hq1]; exact List.nodup_cons.2 ⟨hnq, hnd⟩⟩
   rcases cnt_ok (np := np) (F := F) (Int.le_refl 0) hl2 with ⟨h3, h4⟩ | ⟨h3, _⟩
   ·have h5 := cnt_many (np := np) (F := F) (t := 0) hl2
    have e3 := (pos_perm p1).length_eq
    have e4 := (pos_perm p2).length_eq
    rw [pos_cons_none (by rfl)] at e3
    rw [pos_cons hq1, List.length_cons] at e4
    omega
   ·exact h3 (ok_perm p2.symm ho2)
  ·omega
end Go.Fire
