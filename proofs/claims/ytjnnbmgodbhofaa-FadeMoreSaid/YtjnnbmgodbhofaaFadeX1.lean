/-
  Chapter 12: theory of FadeMore: what is known of fewer truths, and of truths whose samples are listed the other way round.
-/
import Derived.Test.YtjnnbmgodbhofaaFadeSpec3
set_option linter.all false
set_option maxRecDepth 100000
set_option linter.unusedVariables false
namespace Go.Fade
open Go Go.Sx
theorem wrap_near {n : Int} : (-9223372036854775808 ≤ n ∧ n ≤ 9223372036854775807 → IntKind.wrap .i64 n = n) ∧ (9223372036854775808 ≤ n → n ≤ 9223372036854776000 → IntKind.wrap .i64 n < 0) := by
 constructor
 ·intro h; exact wrap_in h
 ·intro h1 h2
  simp [IntKind.wrap, IntKind.signed, IntKind.bits] <;> omega
theorem wider {f g : Fading} (Of : OkC f) (Og : OkC g) (hk : ∀ i, known g i ↔ known f i) (ht : ∀ t, Truth g t → Truth f t) {bg : Bds} (hg : enterL noBounds (allL g) = some bg) :
  ∃ bf, enterL noBounds (allL f) = some bf ∧ ∀ i k, known f i → known f k → gt bg i k ≤ gt bf i k := by
 have Ig := (all_in Og).2 bg hg
 have h00 := Ig.dg 0 (by omega)
 obtain ⟨t0, ht0, _⟩ := truth_of Og hg Ig.s0 Ig.s0 (v := 0) (by omega) (by omega)
 obtain ⟨bf, hf, _⟩ := truth_enters Of (ht t0 ht0)
 refine ⟨bf, hf, fun i k hi hk' => ?_⟩
 have gi := (hk i).2 hi
 have gk := (hk k).2 hk'
 have h1 := Ig.tri i k i gi gk gi
 have h2 := Ig.dg i (Ig.lt i gi)
 obtain ⟨t, ht1, ht2⟩ := truth_of Og hg gi gk (v := gt bg i k) (by omega) (Int.le_refl _)
 obtain ⟨bf', hf', h3⟩ := truth_enters Of (ht t ht1)
 rw [hf] at hf'
 cases hf'
 have := h3 i k hi hk'
 omega
theorem open_eval {f : Fading} {b : Bds} (O : OkC f) (hb : enterL noBounds (allL f) = some b) : openV f true = (some b, 0) := by
 unfold openV
 rw [cards_iff.2 O, hb]; rfl
theorem open_none {f : Fading} (O : OkC f) (hb : enterL noBounds (allL f) = none) : openV f true = (none, 6) := by
 unfold openV
 rw [cards_iff.2 O, hb]; rfl
theorem open_bad {f : Fading} (O : OkC f) : openV f false = (none, 2) := by
 unfold openV
 rw [cards_iff.2 O]; rfl
theorem grade_mono {bf bg : Bds} {o : Int} : ∀ (n : Nat) (k : Int) (s s' : Span), (∀ j : Int, k ≤ j → j < k + (n : Int) → aboveV (some bg) (13 + j) o ≤ aboveV (some bf) (13 + j) o ∧ aboveV (some bg) o (13 + j) ≤ aboveV (some bf) o (13 + j)) → s'.1 ≤ s.1 → s.2 ≤ s'.2 →
  (gradeGo (some bf) o n k s').1 ≤ (gradeGo (some bg) o n k s).1 ∧ (gradeGo (some bg) o n k s).2 ≤ (gradeGo (some bf) o n k s').2
 | 0, _, _, _, _, h1, h2 => ⟨h1, h2⟩
 | n + 1, k, s, s', h, h1, h2 => by
  have h0 := h k (Int.le_refl _) (by omega)
  rw [gradeGo, gradeGo]
  refine grade_mono n (k + 1) _ _ (fun j hj hj2 => h j (by omega) (by omega)) ?_ ?_
  ·by_cases hc : aboveV (some bf) (13 + k) o ≤ 0
   ·rw [decide_eq_true hc, decide_eq_true (show aboveV (some bg) (13 + k) o ≤ 0 by omega)]; simp only [cond_true]; omega
   ·rw [decide_eq_false hc]
    cases decide (aboveV (some bg) (13 + k) o ≤ 0) <;> simp only [cond_true, cond_false] <;> omega
  ·by_cases hc : 0 ≤ aboveV (some bg) o (13 + k)
   ·rw [decide_eq_true hc, decide_eq_true (show 0 ≤ aboveV (some bf) o (13 + k) by omega)]; simp only [cond_true]; omega
   ·rw [decide_eq_false hc]
    cases decide (0 ≤ aboveV (some bf) o (13 + k)) <;> simp only [cond_true, cond_false] <;> omega
theorem grade_same {bf bg : Bds} {o o' : Int} : ∀ (n : Nat) (k : Int) (s : Span), (∀ j : Int, k ≤ j → j < k + (n : Int) → aboveV (some bg) (13 + j) o' = aboveV (some bf) (13 + j) o ∧ aboveV (some bg) o' (13 + j) = aboveV (some bf) o (13 + j)) →
  gradeGo (some bg) o' n k s = gradeGo (some bf) o n k s
 | 0, _, _, _ => rfl
 | n + 1, k, s, h => by
  have h0 := h k (Int.le_refl _) (by omega)
  rw [gradeGo, gradeGo, h0.1, h0.2]
  exact grade_same n (k + 1) _ fun j hj hj2 => h j (by omega) (by omega)
structure Narrow (f g : Fading) : Prop where
 nm : g.1.length = f.1.length
 nr : g.2.1.length = f.2.1.length
 ns : g.2.2.1 = f.2.2.1
 tr : ∀ t, Truth g t → Truth f t
def inS (a b : Span) : Prop := b.1 ≤ a.1 ∧ a.2 ≤ b.2
variable {f g : Fading}
theorem Narrow.known (h : Narrow f g) (i : Nat) : known g i ↔ known f i := by unfold Fade.known; rw [h.nm, h.nr, h.ns]
theorem Narrow.open (h : Narrow f g) (Of : OkC f) {v : Bool} (hv : (openV g v).2 = 0) : v = true ∧ ∃ bg bf, openV g v = (some bg, 0) ∧ openV f v = (some bf, 0) ∧ ∀ i k, Fade.known f i → Fade.known f k → gt bg i k ≤ gt bf i k := by
 obtain ⟨Og, rfl, bg, hb, he, _⟩ := open_ok (by rw [hv]; rfl)
 obtain ⟨bf, h1, h2⟩ := wider Of Og h.known h.tr he
 exact ⟨rfl, bg, bf, hb, open_eval Of h1, h2⟩
theorem month_kn (f : Fading) {m : Int} (h : 0 ≤ m ∧ m ≤ (f.1.length : Int)) : Fade.known f m.toNat := .inl (by omega)
theorem light_nar (h : Narrow f g) (Of : OkC f) (m : Int) (h0 : (lightV g m).2 = 0) : (lightV f m).2 = 0 ∧ inS (lightV g m).1 (lightV f m).1 := by
 unfold lightV at h0 ⊢
 rw [h.nm] at h0 ⊢
 cases hv : (openV g (inB m 0 (f.1.length : Int))).2 == 0 with
 | false =>
  simp only [hv] at h0
  rw [beq_eq_false_iff_ne] at hv
  exact absurd h0 hv
 | true =>
  obtain ⟨h1, bg, bf, h2, h3, h4⟩ := h.open Of (by simpa using hv)
  have hm := inB_iff.1 h1
  have k0 : Fade.known f 0 := .inl (Nat.zero_le _)
  have km := month_kn f hm
  simp only [h2, h3]
  refine ⟨rfl, ?_, ?_⟩
  ·show -(gt bf 0 m.toNat) ≤ -(gt bg 0 m.toNat)
   have := h4 0 m.toNat k0 km
   omega
  ·show gt bg m.toNat 0 ≤ gt bf m.toNat 0
   exact h4 m.toNat 0 km k0
theorem fast_nar (h : Narrow f g) (Of : OkC f) (what index : Int) (h0 : (fastV g what index).2 = 0) : (fastV f what index).2 = 0 ∧ inS (fastV g what index).1 (fastV f what index).1 := by
 have et : thingB g what index = thingB f what index := by unfold thingB; rw [h.nr, h.ns]
 unfold fastV at h0 ⊢
 rw [et] at h0 ⊢
 cases hv : (openV g (thingB f what index)).2 == 0 with
 | false =>
  simp only [hv] at h0
  rw [beq_eq_false_iff_ne] at hv
  exact absurd h0 hv
 | true =>
  obtain ⟨h1, bg, bf, h2, h3, h4⟩ := h.open Of (by simpa using hv)
  obtain ⟨p, ep, kp, _⟩ := of_known Of ((thing_iff Of.ns).1 h1)
  have k0 : Fade.known f 0 := .inl (Nat.zero_le _)
  simp only [h2, h3, ep]
  refine ⟨rfl, ?_, ?_⟩
  ·show -(gt bf 0 p) ≤ -(gt bg 0 p)
   have := h4 0 p k0 kp
   omega
  ·show gt bg p 0 ≤ gt bf p 0
   exact h4 p 0 kp k0
theorem ref_kn (f : Fading) {j : Int} (h : 0 ≤ j ∧ j < (f.2.1.length : Int)) : Fade.known f (13 + j).toNat := .inr (.inl (by omega))
theorem sample_kn (f : Fading) {j : Int} (h : 0 ≤ j ∧ j < f.2.2.1) : Fade.known f (21 + j).toNat := .inr (.inr (by omega))
theorem grade_nar (h : Narrow f g) (Of : OkC f) (index : Int) (h0 : (gradeV g index).2 = 0) : (gradeV f index).2 = 0 ∧ inS (gradeV g index).1 (gradeV f index).1 := by
 unfold gradeV at h0 ⊢
 rw [h.ns, h.nr] at h0 ⊢
 cases hv : (openV g (inB index 0 (less1 f.2.2.1))).2 == 0 with
 | false =>
  simp only [hv] at h0
  rw [beq_eq_false_iff_ne] at hv
  exact absurd h0 hv
 | true =>
  obtain ⟨h1, bg, bf, h2, h3, h4⟩ := h.open Of (by simpa using hv)
  have hi := inB_iff.1 h1
  rw [less1u_of Of.ns] at hi
  have ks := sample_kn f (j := index) (by omega)
  simp only [h2, h3]
  refine ⟨rfl, ?_⟩
  refine grade_mono _ _ _ _ (fun j hj hj2 => ?_) (Int.le_refl _) (Int.le_refl _)
  have kr := ref_kn f (j := j) (by omega)
  exact ⟨h4 _ _ kr ks, h4 _ _ ks kr⟩
def turnP (s : Nat) (p : Nat) : Nat := if 21 ≤ p ∧ p < 21 + s then 21 + (s - 1 - (p - 21)) else p
theorem turn_turn (s p : Nat) : turnP s (turnP s p) = p := by
 unfold turnP
 by_cases h : 21 ≤ p ∧ p < 21 + s
 ·rw [if_pos h, if_pos (by omega)]; omega
 ·rw [if_neg h, if_neg h]
theorem turn_low {s p : Nat} (h : p < 21) : turnP s p = p := by unfold turnP; rw [if_neg (by omega)]
def swC (S : Int) (c : Check) : Check := cond (c.2.1 == 1) (c.1, c.2.1, S - 1 - c.2.2.1, c.2.2.2) c
structure Turned (f g : Fading) : Prop where
 m : g.1 = f.1
 r : g.2.1 = f.2.1
 s : g.2.2.1 = f.2.2.1
 c : ∀ c, c ∈ g.2.2.2 ↔ ∃ c' ∈ f.2.2.2, c = swC f.2.2.1 c'
 n : g.2.2.2.length ≤ 40
theorem sw_ref {S : Int} {c : Check} (h : c.2.1 = 0) : swC S c = c := by
 unfold swC
 rw [show (c.2.1 == 1) = false by rw [h]; rfl]; rfl
theorem sw_sample {S : Int} {c : Check} (h : c.2.1 = 1) : swC S c = (c.1, c.2.1, S - 1 - c.2.2.1, c.2.2.2) := by
 unfold swC
 rw [show (c.2.1 == 1) = true by rw [h]; rfl]; rfl
theorem pt_sw {c : Check} (Of : OkC f) (hc : c ∈ f.2.2.2) : ptOf (swC f.2.2.1 c).2.1 (swC f.2.2.1 c).2.2.1 = turnP f.2.2.1.toNat (ptOf c.2.1 c.2.2.1) := by
 have hs := Of.ns
 have hr := Of.nr
 rcases (Of.checks c hc).2 with ⟨h1, h2, h3⟩ | ⟨h1, h2, h3⟩
 ·rw [sw_ref h1]
  unfold ptOf ofV
  rw [h1]
  show (13 + c.2.2.1).toNat = turnP _ (13 + c.2.2.1).toNat
  rw [turn_low (by omega)]
 ·rw [sw_sample h1]
  unfold ptOf ofV
  rw [h1]
  show (21 + (f.2.2.1 - 1 - c.2.2.1)).toNat = turnP _ (21 + c.2.2.1).toNat
  unfold turnP
  rw [if_pos (by omega)]; omega
theorem Turned.ok (h : Turned f g) (Of : OkC f) : OkC g := by
 have hs := Of.ns
 refine ⟨by rw [h.m]; exact Of.nm, by rw [h.r]; exact Of.nr, by rw [h.s]; exact Of.ns, h.n, by rw [h.m]; exact Of.months, by rw [h.r]; exact Of.refs, fun c hc => ?_⟩
 obtain ⟨c', hc', rfl⟩ := (h.c c).1 hc
 have hk := Of.checks c' hc'
 rw [h.m, h.r, h.s]
 rcases hk.2 with ⟨h1, h2, h3⟩ | ⟨h1, h2, h3⟩
 ·rw [sw_ref h1]; exact hk
 ·rw [sw_sample h1]; exact ⟨hk.1, .inr ⟨h1, by show 0 ≤ f.2.2.1 - 1 - c'.2.2.1; omega, by show f.2.2.1 - 1 - c'.2.2.1 < f.2.2.1; omega⟩⟩
theorem Turned.truth (h : Turned f g) (Of : OkC f) (t : Nat → Int) : Truth g t ↔ Truth f fun p => t (turnP f.2.2.1.toNat p) := by
 have hnm := Of.nm
 have hnr := Of.nr
 have L : ∀ p, p < 21 → turnP f.2.2.1.toNat p = p := fun p hp => turn_low hp
 have hsw : ∀ c ∈ f.2.2.2, (swC f.2.2.1 c).2.2.2 = c.2.2.2 ∧ (swC f.2.2.1 c).1 = c.1 ∧ turnP f.2.2.1.toNat c.1.toNat = c.1.toNat := fun c hc => by
  have := (Of.checks c hc).1
  refine ⟨?_, ?_, L _ (by omega)⟩ <;> (unfold swC; cases (c.2.1 == 1) <;> rfl)
 constructor
 ·intro T
  refine ⟨fun j hj => ?_, fun k hk => ?_, fun k hk => ?_, fun s hs => ?_, fun c hc => ?_⟩
  ·have := T.months j (by rw [h.m]; exact hj)
   rw [h.m] at this
   simp only [L j (by omega), L (j + 1) (by omega)]; exact this
  ·have := T.refs k (by rw [h.r]; exact hk)
   rw [h.r] at this
   simp only [L 0 (by omega), L (13 + k) (by omega)]; exact this
  ·have := T.more k (by rw [h.r]; exact hk)
   simp only [L (13 + (k + 1)) (by omega), L (13 + k) (by omega)]; exact this
  ·have := T.samples (f.2.2.1.toNat - 1 - s) (by rw [h.s]; omega)
   have e : turnP f.2.2.1.toNat (21 + s) = 21 + (f.2.2.1.toNat - 1 - s) := by unfold turnP; rw [if_pos (by omega)]; omega
   simp only [L 0 (by omega), e]; exact this
  ·have := T.checks (swC f.2.2.1 c) ((h.c _).2 ⟨c, hc, rfl⟩)
   obtain ⟨e1, e2, e3⟩ := hsw c hc
   rw [pt_sw Of hc, e1, e2] at this
   simp only [e3]; exact this
 ·intro T
  refine ⟨fun j hj => ?_, fun k hk => ?_, fun k hk => ?_, fun s hs => ?_, fun c hc => ?_⟩
  ·rw [h.m] at hj ⊢
   have := T.months j hj
   simp only [L j (by omega), L (j + 1) (by omega)] at this; exact this
  ·rw [h.r] at hk ⊢
   have := T.refs k hk
   simp only [L 0 (by omega), L (13 + k) (by omega)] at this; exact this
  ·rw [h.r] at hk
   have := T.more k hk
   simp only [L (13 + (k + 1)) (by omega), L (13 + k) (by omega)] at this; exact this
  ·rw [h.s] at hs
   have := T.samples (f.2.2.1.toNat - 1 - s) (by omega)
   have e : turnP f.2.2.1.toNat (21 + (f.2.2.1.toNat - 1 - s)) = 21 + s := by unfold turnP; rw [if_pos (by omega)]; omega
   simp only [L 0 (by omega), e] at this; exact this
  ·obtain ⟨c', hc', rfl⟩ := (h.c c).1 hc
   have := T.checks c' hc'
   obtain ⟨e1, e2, e3⟩ := hsw c' hc'
   rw [pt_sw Of hc', e1, e2]
   simp only [e3] at this; exact this
theorem turn_known (h : Turned f g) (i : Nat) : known g (turnP f.2.2.1.toNat i) ↔ known f i := by
 unfold known withAll
 rw [h.m, h.r, h.s]
 unfold turnP
 by_cases hi : 21 ≤ i ∧ i < 21 + f.2.2.1.toNat
 ·rw [if_pos hi]
  exact ⟨fun _ => .inr (.inr hi), fun _ => .inr (.inr ⟨by omega, by omega⟩)⟩
 ·rw [if_neg hi]
theorem turn_bds (h : Turned f g) (Of : OkC f) : (enterL noBounds (allL f) = none ∧ enterL noBounds (allL g) = none) ∨ ∃ bf bg, enterL noBounds (allL f) = some bf ∧ enterL noBounds (allL g) = some bg ∧
  ∀ i k, known f i → known f k → gt bg (turnP f.2.2.1.toNat i) (turnP f.2.2.1.toNat k) = gt bf i k := by
 have Og := h.ok Of
 have fwd : ∀ t, Truth f t → Truth g fun p => t (turnP f.2.2.1.toNat p) := fun t ht => (h.truth Of _).2 (by simp only [turn_turn]; exact ht)
 cases hf : enterL noBounds (allL f) with
 | none =>
  left
  refine ⟨rfl, ?_⟩
  cases hg : enterL noBounds (allL g) with
  | none => rfl
  | some bg =>
   have Ig := (all_in Og).2 bg hg
   have h00 := Ig.dg 0 (by omega)
   obtain ⟨t, ht, _⟩ := truth_of Og hg Ig.s0 Ig.s0 (v := 0) (by omega) (by omega)
   obtain ⟨bf, hf', _⟩ := truth_enters Of ((h.truth Of t).1 ht)
   rw [hf] at hf'; cases hf'
 | some bf =>
  have If := (all_in Of).2 bf hf
  have h00 := If.dg 0 (by omega)
  obtain ⟨t, ht, _⟩ := truth_of Of hf If.s0 If.s0 (v := 0) (by omega) (by omega)
  obtain ⟨bg, hg, _⟩ := truth_enters Og (fwd t ht)
  have Ig := (all_in Og).2 bg hg
  refine .inr ⟨bf, bg, rfl, hg, fun i k hi hk => ?_⟩
  have gi := (turn_known h i).2 hi
  have gk := (turn_known h k).2 hk
  have a1 := If.tri i k i hi hk hi
  have a2 := If.dg i (If.lt i hi)
  have b1 := Ig.tri _ _ _ gi gk gi
  have b2 := Ig.dg _ (Ig.lt _ gi)
  obtain ⟨u, hu, hu2⟩ := truth_of Of hf hi hk (v := gt bf i k) (by omega) (Int.le_refl _)
  obtain ⟨bg', hg', h3⟩ := truth_enters Og (fwd u hu)
  rw [hg] at hg'; cases hg'
  have c1 := h3 _ _ gi gk
  simp only [turn_turn] at c1
  obtain ⟨v, hv, hv2⟩ := truth_of Og hg gi gk (v := gt bg (turnP f.2.2.1.toNat i) (turnP f.2.2.1.toNat k)) (by omega) (Int.le_refl _)
  obtain ⟨bf', hf', h4⟩ := truth_enters Of ((h.truth Of v).1 hv)
  rw [hf] at hf'; cases hf'
  have c2 := h4 i k hi hk
  omega
theorem light_turn (h : Turned f g) (Of : OkC f) (m : Int) : lightV g m = lightV f m := by
 have Og := h.ok Of
 have hs := Of.nm
 unfold lightV
 rw [h.m]
 cases hv : inB m 0 (f.1.length : Int) with
 | false => rw [open_bad Of, open_bad Og]; first | done | rfl
 | true =>
  have hm := inB_iff.1 hv
  rcases turn_bds h Of with ⟨h1, h2⟩ | ⟨bf, bg, h1, h2, h3⟩
  ·rw [open_none Of h1, open_none Og h2]; first | done | rfl
  ·rw [open_eval Of h1, open_eval Og h2]
   have k0 : known f 0 := .inl (Nat.zero_le _)
   have km := month_kn f hm
   have e1 := h3 0 m.toNat k0 km
   have e2 := h3 m.toNat 0 km k0
   rw [turn_low (by omega), turn_low (by omega)] at e1 e2
   show ((-(gt bg 0 m.toNat), gt bg m.toNat 0), (0 : Int)) = ((-(gt bf 0 m.toNat), gt bf m.toNat 0), (0 : Int))
   rw [e1, e2]
def ownV (S what index : Int) : Int := cond (what == 1) (IntKind.wrap .i64 (S - 1 - index)) index
theorem own_in {S index : Int} (hS : 0 ≤ S ∧ S ≤ 6) (hi : i64 index) : (0 ≤ IntKind.wrap .i64 (S - 1 - index) ∧ IntKind.wrap .i64 (S - 1 - index) ≤ S - 1 ↔ 0 ≤ index ∧ index ≤ S - 1) ∧ (0 ≤ index ∧ index ≤ S - 1 → IntKind.wrap .i64 (S - 1 - index) = S - 1 - index) := by
 obtain ⟨h1, h2⟩ : -9223372036854775808 ≤ index ∧ index ≤ 9223372036854775807 := hi
 by_cases hb : S - 1 - index ≤ 9223372036854775807
 ·have e := (wrap_near (n := S - 1 - index)).1 ⟨by omega, hb⟩
  rw [e]; omega
 ·have e := (wrap_near (n := S - 1 - index)).2 (by omega) (by omega)
  omega
theorem fast_turn (h : Turned f g) (Of : OkC f) (what : Int) {index : Int} (hi : i64 index) : fastV g what (ownV f.2.2.1 what index) = fastV f what index := by
 have Og := h.ok Of
 have hr := Of.nr
 have hs := Of.ns
 have hown := own_in hs hi
 have et : thingB g what (ownV f.2.2.1 what index) = thingB f what index := by
  refine bool_ext ?_
  rw [thing_iff Og.ns, thing_iff Of.ns, h.r, h.s]
  unfold ownV
  by_cases h1 : what = 1
  ·subst h1
   simp only [show ((1 : Int) == 1) = true from rfl, cond_true]
   constructor
   ·rintro (⟨h2, _⟩ | ⟨_, h2, h3⟩)
    ·omega
    ·exact .inr ⟨by first | rfl | trivial, by omega, by omega⟩
   ·rintro (⟨h2, _⟩ | ⟨_, h2, h3⟩)
    ·omega
    ·exact .inr ⟨by first | rfl | trivial, by omega, by omega⟩
  ·rw [show (what == 1) = false by rw [beq_eq_false_iff_ne]; exact h1, cond_false]
 unfold fastV
 rw [et]
 cases hv : thingB f what index with
 | false => rw [open_bad Of, open_bad Og]; first | done | rfl
 | true =>
  have ht := (thing_iff hs).1 hv
  rcases turn_bds h Of with ⟨h1, h2⟩ | ⟨bf, bg, h1, h2, h3⟩
  ·rw [open_none Of h1, open_none Og h2]; first | done | rfl
  ·rw [open_eval Of h1, open_eval Og h2]
   have k0 : known f 0 := .inl (Nat.zero_le _)
   obtain ⟨p, ep, kp, _⟩ := of_known Of ht
   have e1 := h3 0 p k0 kp
   have e2 := h3 p 0 kp k0
   rw [turn_low (p := 0) (by omega)] at e1 e2
   have ep' : ofV what (ownV f.2.2.1 what index) = ((turnP f.2.2.1.toNat p : Nat) : Int) := by
    rcases ht with ⟨rfl, h4, h5⟩ | ⟨rfl, h4, h5⟩
    ·have : (p : Int) = 13 + index := ep.symm
     rw [turn_low (by omega)]
     exact ep
    ·have hp : (p : Int) = 21 + index := ep.symm
     show 21 + IntKind.wrap .i64 (f.2.2.1 - 1 - index) = _
     rw [hown.2 ⟨h4, by omega⟩]
     unfold turnP
     rw [if_pos (by omega)]; omega
   rw [ep, ep']
   show ((-(gt bg 0 (turnP f.2.2.1.toNat p)), gt bg (turnP f.2.2.1.toNat p) 0), (0 : Int)) = ((-(gt bf 0 p), gt bf p 0), (0 : Int))
   rw [e1, e2]
theorem grade_turn (h : Turned f g) (Of : OkC f) {index : Int} (hi : i64 index) : gradeV g (IntKind.wrap .i64 (f.2.2.1 - 1 - index)) = gradeV f index := by
 have Og := h.ok Of
 have hr := Of.nr
 have hs := Of.ns
 have hown := own_in hs hi
 have et : inB (IntKind.wrap .i64 (f.2.2.1 - 1 - index)) 0 (less1 g.2.2.1) = inB index 0 (less1 f.2.2.1) := by
  refine bool_ext ?_
  rw [h.s, less1u_of hs, inB_iff, inB_iff]; exact hown.1
 unfold gradeV
 rw [et, h.r]
 cases hv : inB index 0 (less1 f.2.2.1) with
 | false => rw [open_bad Of, open_bad Og]; first | done | rfl
 | true =>
  have hx := inB_iff.1 hv
  rw [less1u_of hs] at hx
  rcases turn_bds h Of with ⟨h1, h2⟩ | ⟨bf, bg, h1, h2, h3⟩
  ·rw [open_none Of h1, open_none Og h2]; first | done | rfl
  ·rw [open_eval Of h1, open_eval Og h2, hown.2 hx]
   show (gradeGo (some bg) (21 + (f.2.2.1 - 1 - index)) f.2.1.length 0 (0, 0), (0 : Int)) = (gradeGo (some bf) (21 + index) f.2.1.length 0 (0, 0), (0 : Int))
   rw [grade_same (bf := bf) (bg := bg) (o := 21 + index)]
   intro j hj hj2
   have ks := sample_kn f (j := index) (by omega)
   have kr := ref_kn f (j := j) (by omega)
   have e1 := h3 _ _ kr ks
   have e2 := h3 _ _ ks kr
   rw [turn_low (p := (13 + j).toNat) (by omega), show turnP f.2.2.1.toNat (21 + index).toNat = (21 + (f.2.2.1 - 1 - index)).toNat by unfold turnP; rw [if_pos (by omega)]; omega] at e1 e2
   exact ⟨e1, e2⟩
theorem swap_loop {l : List Check} {S : Int} {b : Nat} (hl : 0 < l.length) : ∀ c, c ∈ (List.range l.length).map (fun i => swC S (l.getD ((i + b) % l.length) (0, 0, 0, false))) ↔ ∃ c' ∈ l, c = swC S c' := by
 intro c
 rw [List.mem_map]
 constructor
 ·rintro ⟨i, hi, rfl⟩
  exact ⟨_, getD_mem l _ _ (Nat.mod_lt _ hl), rfl⟩
 ·rintro ⟨c', hc', rfl⟩
  obtain ⟨j, hj, rfl⟩ := List.mem_iff_getElem.1 hc'
  have hm := Nat.mod_lt b hl
  refine ⟨(j + (l.length - b % l.length)) % l.length, List.mem_range.2 (Nat.mod_lt _ hl), ?_⟩
  have e : ((j + (l.length - b % l.length)) % l.length + b) % l.length = j := by
   rw [Nat.mod_add_mod, ← Nat.add_mod_mod, show j + (l.length - b % l.length) + b % l.length = j + l.length by omega, Nat.add_mod_right, Nat.mod_eq_of_lt hj]
  rw [e]
  simp [List.getD, hj]
theorem until_more (Of : OkC f) {index : Int} (hw : (fastV f 0 index).2 = 0) {b : Int} (hb : 0 ≤ b ∧ b ≤ 255) :
  (((untilV f index (b + 1, b + 1)).2 == 0) && ((((untilV f index (b, b)).2 == 4) && (b == 0)) || (((untilV f index (b, b)).2 == 0) && decide ((untilV f index (b + 1, b + 1)).1 ≤ (untilV f index (b, b)).1)))) = true := by
 rcases fast_facts (f := f) 0 index with ⟨e, he, h⟩ | ⟨bd, p, ep, kp, O, ht, hbd, _, _⟩
 ·rw [h] at hw; exact absurd hw he
 have hth := (thing_iff Of.ns).2 ht
 have hs1 : spanB (b, b) 0 1000000 = true := span_iff.2 (by simp only; omega)
 have hs2 : spanB (b + 1, b + 1) 0 1000000 = true := span_iff.2 (by simp only; omega)
 obtain ⟨L, hL⟩ : ∃ L, L = aboveV (some bd) (13 + index) (f.1.length : Int) := ⟨_, rfl⟩
 have u : ∀ c, spanB (c, c) 0 1000000 = true → untilV f index (c, c) = cond (decide (L ≤ 0)) (0, 0) (cond (c == 0) (0, 4) ((L + c - 1).tdiv c, 0)) := fun c hc => by
  unfold untilV
  rw [hth, hc, Bool.and_self, open_eval Of hbd, hL]; rfl
 rw [u _ hs1, u _ hs2]
 by_cases hl : L ≤ 0
 ·rw [decide_eq_true hl]; simp
 ·rw [decide_eq_false hl]
  simp only [cond_false]
  have e1 : ((b + 1) == 0) = false := by rw [beq_eq_false_iff_ne]; omega
  rw [e1]
  by_cases h0 : b = 0
  ·subst h0; simp
  ·have e0 : (b == 0) = false := by rw [beq_eq_false_iff_ne]; exact h0
   rw [e0]
   have hle : (L + (b + 1) - 1).tdiv (b + 1) ≤ (L + b - 1).tdiv b := by
    rw [Int.tdiv_eq_ediv_of_nonneg (by omega), Int.tdiv_eq_ediv_of_nonneg (by omega)]
    obtain ⟨q, hq⟩ : ∃ q, q = (L + b - 1) / b := ⟨_, rfl⟩
    have h1 := Int.lt_ediv_add_one_mul_self (L + b - 1) (show 0 < b by omega)
    have hq0 : 0 ≤ q := by rw [hq]; exact Int.ediv_nonneg (by omega) (by omega)
    rw [← hq, Int.add_mul, Int.one_mul] at h1
    rw [← hq]
    refine Int.le_of_lt_add_one ((Int.ediv_lt_iff_lt_mul (by omega)).2 ?_)
    rw [Int.add_mul, Int.mul_add, Int.one_mul, Int.mul_one]
    omega
   simp [hle]
end Go.Fade
