/-
  Chapter 12: the document's table: what follows by way of a third number. Plain Lean.
-/
import Derived.Test.YtjnnbmgodbhofaaFadeT1
set_option linter.all false
set_option maxRecDepth 100000
namespace Go.Fade
open Go Go.Sx
section
variable {f : Fading} {m : Nat}
theorem en_out {N : Nat} {t : List (List Int)} (h : Sq N t) {a b : Nat} (ho : N ≤ a ∨ N ≤ b) : en t a b = 0 := by
 unfold en
 by_cases ha : a < N
 ·rw [List.getD_eq_getElem?_getD (l := t.getD a []), List.getElem?_eq_none (by rw [h.row a ha]; omega)]; rfl
 ·rw [List.getD_eq_getElem?_getD (l := t), List.getElem?_eq_none (by rw [h.len]; omega)]; rfl
theorem le_all {N : Nat} {t t' : List (List Int)} (h : Sq N t) (h' : Sq N t') (hl : ∀ a b, a < N → b < N → en t' a b ≤ en t a b) (a b : Nat) : en t' a b ≤ en t a b := by
 by_cases ha : a < N
 ·by_cases hb : b < N
  ·exact hl a b ha hb
  ·rw [en_out h (.inr (by omega)), en_out h' (.inr (by omega))]; exact Int.le_refl _
 ·rw [en_out h (.inl (by omega)), en_out h' (.inl (by omega))]; exact Int.le_refl _
structure Cl (f : Fading) (k : Nat) (B : Int) (t : List (List Int)) : Prop where
 tri : ∀ c, c < k → ∀ a b, a < sizeN f → b < sizeN f → en t a c < free → en t c b < free → en t a b ≤ en t a c + en t c b
 fin : ∀ a b, a < sizeN f → b < sizeN f → en t a b < free → en t a b ≤ B
 reach : ∀ a, a < sizeN f → (a ≤ k ∨ f.1.length < a) → en t a (min k f.1.length) < free ∧ en t (min k f.1.length) a < free
 all : f.1.length < k → ∀ a b, a < sizeN f → b < sizeN f → en t a b < free
def capB (f : Fading) (k : Nat) : Int := 16777216 * 2 ^ (min k (f.1.length + 1))
def lowB (f : Fading) (k : Nat) : Int := 33554432 * 6 ^ (k - (f.1.length + 1))
theorem cap_le (O : OkC f) (k : Nat) : 16777216 ≤ capB f k ∧ capB f k ≤ 137438953472 := by
 have hm := O.nm
 unfold capB
 have h1 : (2 : Nat) ^ (min k (f.1.length + 1)) ≤ 2 ^ 13 := Nat.pow_le_pow_right (by omega) (by omega)
 have h2 : 1 ≤ (2 : Nat) ^ (min k (f.1.length + 1)) := Nat.one_le_two_pow
 have h3 : ((2 : Int) ^ (min k (f.1.length + 1))) = (((2 : Nat) ^ (min k (f.1.length + 1)) : Nat) : Int) := by norm_cast
 rw [h3]
 omega
theorem cap_step {k : Nat} (h : k ≤ f.1.length) : capB f (k + 1) = 2 * capB f k := by
 unfold capB
 rw [show min (k + 1) (f.1.length + 1) = min k (f.1.length + 1) + 1 by omega, Int.pow_succ]
 omega
theorem cap_same {k : Nat} (h : f.1.length < k) : capB f (k + 1) = capB f k := by
 unfold capB
 rw [show min (k + 1) (f.1.length + 1) = min k (f.1.length + 1) by omega]
theorem low_zero {k : Nat} (h : k ≤ f.1.length + 1) : lowB f k = 33554432 := by
 unfold lowB
 rw [show k - (f.1.length + 1) = 0 by omega]
 rfl
theorem low_step {k : Nat} (h : f.1.length < k) : lowB f (k + 1) = 6 * lowB f k := by
 unfold lowB
 rw [show k + 1 - (f.1.length + 1) = (k - (f.1.length + 1)) + 1 by omega, Int.pow_succ]
 omega
theorem low_bd (O : OkC f) {k : Nat} (h : k < sizeN f) : 33554432 ≤ lowB f k ∧ lowB f k ≤ 438244169232678912 := by
 have hr := O.nr
 have hs := O.ns
 unfold sizeN at h
 unfold lowB
 obtain ⟨e, he⟩ : ∃ e, e = k - (f.1.length + 1) := ⟨_, rfl⟩
 have he' : e ≤ 13 := by omega
 rw [← he]
 have h1 : (6 : Int) ^ e ≤ 6 ^ 13 := by
  have := Nat.pow_le_pow_right (n := 6) (by omega) he'
  exact_mod_cast this
 have h2 : (1 : Int) ≤ 6 ^ e := by
  have := Nat.one_le_pow e 6 (by omega)
  exact_mod_cast this
 have h4 : (6 : Int) ^ 13 = 13060694016 := by decide
 rw [h4] at h1
 obtain ⟨z, hz⟩ : ∃ z : Int, z = 6 ^ e := ⟨_, rfl⟩
 rw [← hz] at h1 h2 ⊢
 omega
structure Mid (f : Fading) (m k : Nat) (t : List (List Int)) : Prop where
 sq : Sq (sizeN f) t
 dg : ∀ a, a < sizeN f → en t a a ≤ 0
 top : ∀ a b, a < sizeN f → b < sizeN f → en t a b ≤ free
 snd : ∀ y, Truth (cutF f m) y → ∀ a b, a < sizeN f → b < sizeN f → y (ptN f a) - y (ptN f b) ≤ en t a b
 edges : Edges f f.1.length f.2.1.length f.2.2.1.toNat m t
 low : k ≤ f.1.length + 1 → ∀ a b, a < sizeN f → b < sizeN f → uL f a - vL f b ≤ en t a b
 lowM : ∀ a b, a < sizeN f → b < sizeN f → -(lowB f k) ≤ en t a b
 cl : (∃ a, a < sizeN f ∧ en t a a < 0) ∨ Cl f k (capB f k) t
theorem mid_zero (O : OkC f) {t : List (List Int)} (h : Base f m t) (he : Edges f f.1.length f.2.1.length f.2.2.1.toNat m t) : Mid f m 0 t := by
 have hc := cap_le O 0
 refine ⟨h.sq, h.dg, h.top, h.snd, he, fun _ => h.low, fun a b ha hb => ?_, .inr ⟨fun c hc => by omega, fun a b ha hb hf => ?_, fun a ha hr => ?_, fun h0 => by omega⟩⟩
 ·rw [low_zero (by omega)]
  have := h.low a b ha hb
  have := u_bd O a
  have := v_bd O b
  omega
 ·have := h.fin a b ha hb hf; omega
 ·rw [show min 0 f.1.length = 0 by omega]
  have ns := O.ns
  have d0 := h.dg a ha
  rcases hr with hr | hr
  ·have : a = 0 := by omega
   subst this
   simp only [free]; omega
  ·unfold sizeN at ha
   by_cases h1 : a ≤ f.1.length + f.2.1.length
   ·obtain ⟨j, rfl⟩ : ∃ j, a = 1 + f.1.length + j := ⟨a - 1 - f.1.length, by omega⟩
    have h2 := he.re j (by omega)
    have h3 := O.refs _ (getD_mem f.2.1 (0, 0) j (by omega))
    simp only [free]; omega
   ·obtain ⟨j, rfl⟩ : ∃ j, a = 1 + f.1.length + f.2.1.length + j := ⟨a - 1 - f.1.length - f.2.1.length, by omega⟩
    have h2 := he.sa j (by omega)
    simp only [free]; omega
def upd (t : List (List Int)) (k a b : Nat) : Int := if en t a k < free ∧ en t k b < free then min (en t a b) (en t a k + en t k b) else en t a b
theorem upd_le (t : List (List Int)) (k a b : Nat) : upd t k a b ≤ en t a b := by
 unfold upd; split <;> omega
theorem upd_via {t : List (List Int)} {k a b : Nat} (h1 : en t a k < free) (h2 : en t k b < free) : upd t k a b ≤ en t a k + en t k b := by
 unfold upd; rw [if_pos ⟨h1, h2⟩]; omega
theorem upd_cases (t : List (List Int)) (k a b : Nat) : upd t k a b = en t a b ∨ (en t a k < free ∧ en t k b < free ∧ upd t k a b = en t a k + en t k b) := by
 unfold upd
 split
 ·rename_i h
  by_cases hm : en t a b ≤ en t a k + en t k b
  ·left; omega
  ·right; exact ⟨h.1, h.2, by omega⟩
 ·exact .inl rfl
theorem upd_row {t : List (List Int)} {k : Nat} (h0 : en t k k = 0) (b : Nat) : upd t k k b = en t k b := by
 unfold upd; rw [h0]; split <;> omega
theorem upd_col {t : List (List Int)} {k : Nat} (h0 : en t k k = 0) (a : Nat) : upd t k a k = en t a k := by
 unfold upd; rw [h0]; split <;> omega
theorem clean_stage (O : OkC f) {k : Nat} {t t' : List (List Int)} (h : Mid f m k t) (hk : k < sizeN f) (h0 : en t k k = 0) (hs : Sq (sizeN f) t') (hu : ∀ a b, a < sizeN f → b < sizeN f → en t' a b = upd t k a b) : Mid f m (k + 1) t' := by
 have hle : ∀ a b, a < sizeN f → b < sizeN f → en t' a b ≤ en t a b := fun a b ha hb => by rw [hu a b ha hb]; exact upd_le t k a b
 refine ⟨hs, fun a ha => Int.le_trans (hle a a ha ha) (h.dg a ha), fun a b ha hb => Int.le_trans (hle a b ha hb) (h.top a b ha hb), fun y hy a b ha hb => ?_, h.edges.le (le_all h.sq hs hle), fun hk' a b ha hb => ?_, fun a b ha hb => ?_, ?_⟩
 ·rw [hu a b ha hb]
  rcases upd_cases t k a b with e | ⟨_, _, e⟩
  ·rw [e]; exact h.snd y hy a b ha hb
  ·have := h.snd y hy a k ha hk
   have := h.snd y hy k b hk hb
   omega
 ·rw [hu a b ha hb]
  have h1 := h.low (by omega) a k ha hk
  have h2 := h.low (by omega) k b hk hb
  rw [v_month (by omega)] at h1
  rw [u_month (by omega)] at h2
  rcases upd_cases t k a b with e | ⟨_, _, e⟩
  ·rw [e]; exact h.low (by omega) a b ha hb
  ·omega
 ·rw [hu a b ha hb]
  by_cases hk' : k ≤ f.1.length
  ·rw [low_zero (by omega)]
   have h1 := h.low (by omega) a k ha hk
   have h2 := h.low (by omega) k b hk hb
   rw [v_month (by omega)] at h1
   rw [u_month (by omega)] at h2
   have h3 := h.low (by omega) a b ha hb
   have := u_bd O a
   have := v_bd O b
   rcases upd_cases t k a b with e | ⟨_, _, e⟩ <;> omega
  ·rw [low_step (by omega)]
   have := low_bd O hk
   have := h.lowM a b ha hb
   have := h.lowM a k ha hk
   have := h.lowM k b hk hb
   rcases upd_cases t k a b with e | ⟨_, _, e⟩ <;> omega
 ·rcases h.cl with ⟨a, ha, hn⟩ | hc
  ·exact .inl ⟨a, ha, Int.lt_of_le_of_lt (hle a a ha ha) hn⟩
  right
  have cb := cap_le O k
  obtain ⟨B, hB⟩ : ∃ B, B = capB f k := ⟨_, rfl⟩
  rw [← hB] at cb hc
  have two : ∀ a b, a < sizeN f → b < sizeN f → en t a k < free → en t k b < free → en t a k + en t k b ≤ 2 * B := fun a b ha hb h1 h2 => by
   have := hc.fin a k ha hk h1
   have := hc.fin k b hk hb h2
   omega
  have rowk : ∀ b, b < sizeN f → en t' k b = en t k b := fun b hb => by rw [hu k b hk hb]; exact upd_row h0 b
  have colk : ∀ a, a < sizeN f → en t' a k = en t a k := fun a ha => by rw [hu a k ha hk]; exact upd_col h0 a
  refine ⟨fun c hck a b ha hb h1 h2 => ?_, fun a b ha hb hf => ?_, fun a ha hr => ?_, fun hM a b ha hb => ?_⟩
  ·have hcN : c < sizeN f := by omega
   by_cases e : c = k
   ·subst e
    rw [colk a ha] at h1 ⊢
    rw [rowk b hb] at h2 ⊢
    rw [hu a b ha hb]
    exact upd_via h1 h2
   have hck : c < k := by omega
   rw [hu a c ha hcN] at h1 ⊢
   rw [hu c b hcN hb] at h2 ⊢
   rw [hu a b ha hb]
   have hab := upd_le t k a b
   rcases upd_cases t k a c with e1 | ⟨f1, f2, e1⟩ <;> rcases upd_cases t k c b with e2 | ⟨f3, f4, e2⟩ <;> rw [e1] at h1 ⊢ <;> rw [e2] at h2 ⊢
   ·have := hc.tri c hck a b ha hb h1 h2; omega
   ·have g1 := hc.tri c hck a k ha hk h1 f3
    have := hc.fin a c ha hcN h1
    have := hc.fin c k hcN hk f3
    have := upd_via (t := t) (k := k) (a := a) (b := b) (by simp only [free]; omega) f4
    omega
   ·have g1 := hc.tri c hck k b hk hb f2 h2
    have := hc.fin k c hk hcN f2
    have := hc.fin c b hcN hb h2
    have := upd_via (t := t) (k := k) (a := a) (b := b) f1 (by simp only [free]; omega)
    omega
   ·have g1 := hc.tri c hck k k hk hk f2 f3
    have := upd_via (t := t) (k := k) (a := a) (b := b) f1 f4
    omega
  ·rw [hu a b ha hb] at hf ⊢
   by_cases hk' : k ≤ f.1.length
   ·rw [cap_step hk', ← hB]
    rcases upd_cases t k a b with e | ⟨f1, f2, e⟩
    ·rw [e] at hf ⊢
     have := hc.fin a b ha hb hf; omega
    ·have := two a b ha hb f1 f2; omega
   ·rw [cap_same (by omega), ← hB]
    have := hc.fin a b ha hb (hc.all (by omega) a b ha hb)
    have := upd_le t k a b
    omega
  ·by_cases hkM : f.1.length ≤ k
   ·have := hc.reach a ha (by omega)
    rw [show min k f.1.length = f.1.length by omega] at this
    rw [show min (k + 1) f.1.length = f.1.length by omega]
    have hM : f.1.length < sizeN f := by unfold sizeN; omega
    exact ⟨Int.lt_of_le_of_lt (hle _ _ ha hM) this.1, Int.lt_of_le_of_lt (hle _ _ hM ha) this.2⟩
   ·rw [show min (k + 1) f.1.length = k + 1 by omega]
    have hk1 : k + 1 < sizeN f := by unfold sizeN; omega
    by_cases e : a = k + 1
    ·subst e
     have := h.dg (k + 1) ha
     have := hle _ _ hk1 hk1
     simp only [free]; omega
    ·have hr := hc.reach a ha (by omega)
     rw [show min k f.1.length = k by omega] at hr
     obtain ⟨m1, m2⟩ := h.edges.mo k (by omega)
     have hv := O.months _ (getD_mem f.1 (0, 0) k (by omega))
     have b1 := hc.fin a k ha hk hr.1
     have b2 := hc.fin k a hk ha hr.2
     have v1 := upd_via (t := t) (k := k) (a := a) (b := k + 1) hr.1 (by simp only [free]; omega)
     have v2 := upd_via (t := t) (k := k) (a := k + 1) (b := a) (by simp only [free]; omega) hr.2
     rw [hu a (k + 1) ha hk1, hu (k + 1) a hk1 ha]
     simp only [free]; omega
  ·by_cases hkM : f.1.length < k
   ·exact Int.lt_of_le_of_lt (hle _ _ ha hb) (hc.all hkM a b ha hb)
   ·have e : k = f.1.length := by omega
    have r1 := (hc.reach a ha (by omega)).1
    have r2 := (hc.reach b hb (by omega)).2
    rw [show min k f.1.length = k by omega] at r1 r2
    have := upd_via (t := t) (k := k) r1 r2
    have := two a b ha hb r1 r2
    rw [hu a b ha hb]
    simp only [free]; omega
theorem neg_stage (O : OkC f) {k : Nat} {t t' : List (List Int)} (h : Mid f m k t) (hk : k < sizeN f) (h0 : en t k k < 0) (hs : Sq (sizeN f) t') (hle : ∀ a b, a < sizeN f → b < sizeN f → en t' a b ≤ en t a b) (hlow : ∀ a b, a < sizeN f → b < sizeN f → -(6 * lowB f k) ≤ en t' a b) : Mid f m (k + 1) t' := by
 have hkM : f.1.length < k := by
  rcases Nat.lt_or_ge f.1.length k with h1 | h1
  ·exact h1
  ·have := h.low (by omega) k k hk hk
   rw [u_month h1, v_month h1] at this
   omega
 refine ⟨hs, fun a ha => Int.le_trans (hle a a ha ha) (h.dg a ha), fun a b ha hb => Int.le_trans (hle a b ha hb) (h.top a b ha hb), fun y hy a b ha hb => ?_, h.edges.le (le_all h.sq hs hle), fun hk' => by omega, fun a b ha hb => ?_, .inl ⟨k, hk, Int.lt_of_le_of_lt (hle k k hk hk) h0⟩⟩
 ·have := h.snd y hy k k hk hk
  omega
 ·rw [low_step hkM]; exact hlow a b ha hb
theorem low_k {k : Nat} {t : List (List Int)} (h : Mid f m k t) (hk : k < sizeN f) : en t k k = 0 ∨ en t k k < 0 := by
 have := h.dg k hk; omega
theorem tab_sq (b : Bds) : Sq (sizeN f) (tabOf f b) := by
 refine ⟨by simp [tabOf], fun a ha => ?_⟩
 unfold tabOf
 rw [range_getD _ _ ha]
 simp
theorem en_tab (b : Bds) {a c : Nat} (ha : a < sizeN f) (hc : c < sizeN f) : en (tabOf f b) a c = gt b (ptN f a) (ptN f c) := by
 unfold en tabOf
 rw [range_getD _ _ ha, range_getD _ _ hc]
def ndN (f : Fading) (p : Nat) : Nat := if p ≤ 12 then p else if p < 21 then 1 + f.1.length + (p - 13) else 1 + f.1.length + f.2.1.length + (p - 21)
theorem nd_pt (O : OkC f) {a : Nat} (h : a < sizeN f) : ndN f (ptN f a) = a := by
 have := O.nm; have := O.nr
 unfold sizeN at h
 unfold ndN ptN
 repeat' split
 all_goals omega
theorem mid_end (O : OkC f) (hm : m ≤ f.2.2.2.length) {t : List (List Int)} (h : Mid f m (sizeN f) t) :
  (∀ a, a < sizeN f → 0 ≤ en t a a) ∧ tableV f m = (t, true) ∨ (∃ a, a < sizeN f ∧ en t a a < 0) ∧ tableV f m = ([], false) := by
 have hM : f.1.length < sizeN f := by unfold sizeN; omega
 by_cases hn : ∃ a, a < sizeN f ∧ en t a a < 0
 ·right
  refine ⟨hn, ?_⟩
  obtain ⟨a, ha, hn⟩ := hn
  unfold tableV
  cases he : enterL noBounds (allL (cutF f m)) with
  | none => rfl
  | some b =>
   exfalso
   have hI := (all_in (cut_ok O)).2 b he
   have k0 : known (cutF f m) 0 := known0 _
   have d0 := hI.dg 0 (by omega)
   obtain ⟨y, hy, _⟩ := truth_of (cut_ok O) he k0 k0 (v := 0) (by omega) (by omega)
   have := h.snd y hy a a ha ha
   omega
 left
 have hd : ∀ a, a < sizeN f → 0 ≤ en t a a := fun a ha => by
  rcases Int.lt_or_le (en t a a) 0 with h1 | h1
  ·exact absurd ⟨a, ha, h1⟩ hn
  ·exact h1
 refine ⟨hd, ?_⟩
 have hc := h.cl.resolve_left hn
 have al := hc.all hM
 have tri : ∀ a b c, a < sizeN f → b < sizeN f → c < sizeN f → en t a b ≤ en t a c + en t c b := fun a b c ha hb hcN => hc.tri c hcN a b ha hb (al a c ha hcN) (al c b hcN hb)
 have hm' := O.nm
 have hr' := O.nr
 have h0N : 0 < sizeN f := by omega
 have tr : ∀ b, b < sizeN f → Truth (cutF f m) fun p => en t (ndN f p) b := by
  intro b hb
  have n1 : ∀ j, j ≤ f.1.length → ndN f j = j := fun j hj => by unfold ndN; rw [if_pos (by omega)]
  have n2 : ∀ j, j < f.2.1.length → ndN f (13 + j) = 1 + f.1.length + j := fun j hj => by unfold ndN; rw [if_neg (by omega), if_pos (by omega)]; omega
  have n3 : ∀ j, ndN f (21 + j) = 1 + f.1.length + f.2.1.length + j := fun j => by unfold ndN; rw [if_neg (by omega), if_neg (by omega)]; omega
  refine ⟨fun j hj => ?_, fun j hj => ?_, fun j hj => ?_, fun j hj => ?_, fun c hc' => ?_⟩
  ·have hj : j < f.1.length := hj
   obtain ⟨e1, e2⟩ := h.edges.mo j hj
   have jN : j + 1 < sizeN f := by omega
   rw [n1 j (by omega), n1 (j + 1) (by omega)]
   have g1 := tri (j + 1) b j jN hb (by omega)
   have g2 := tri j b (j + 1) (by omega) hb jN
   show (f.1.getD j (0, 0)).1 ≤ _ ∧ _ ≤ (f.1.getD j (0, 0)).2
   omega
  ·have hj : j < f.2.1.length := hj
   obtain ⟨e1, e2⟩ := h.edges.re j hj
   have jN : 1 + f.1.length + j < sizeN f := by unfold sizeN; omega
   rw [n2 j hj, n1 0 (by omega)]
   have g1 := tri (1 + f.1.length + j) b 0 jN hb h0N
   have g2 := tri 0 b (1 + f.1.length + j) h0N hb jN
   show (f.2.1.getD j (0, 0)).1 ≤ _ ∧ _ ≤ (f.2.1.getD j (0, 0)).2
   omega
  ·have hj : j + 1 < f.2.1.length := hj
   have e1 := h.edges.up j hj
   have jN : 1 + f.1.length + (j + 1) < sizeN f := by unfold sizeN; omega
   rw [n2 j (by omega), n2 (j + 1) hj]
   have g1 := tri (1 + f.1.length + j) b (1 + f.1.length + (j + 1)) (by omega) hb jN
   omega
  ·have hj : j < f.2.2.1.toNat := hj
   obtain ⟨e1, e2⟩ := h.edges.sa j hj
   have jN : 1 + f.1.length + f.2.1.length + j < sizeN f := by unfold sizeN; omega
   rw [n3 j, n1 0 (by omega)]
   have g1 := tri (1 + f.1.length + f.2.1.length + j) b 0 jN hb h0N
   have g2 := tri 0 b (1 + f.1.length + f.2.1.length + j) h0N hb jN
   omega
  ·obtain ⟨j, hj, hcj⟩ := List.mem_iff_getElem.1 hc'
   have hjl : j < m ∧ j < f.2.2.2.length := by
    have : j < (f.2.2.2.take m).length := hj
    rw [List.length_take] at this
    omega
   have hcc : c = f.2.2.2.getD j (0, 0, 0, false) := by
    rw [← take_getD f.2.2.2 _ hjl.1, ← hcj]
    exact (getD_eq hj).symm
   have e1 := h.edges.ch j hjl.1
   rw [← hcc] at e1
   obtain ⟨⟨m0, m1⟩, hw⟩ := O.checks c (List.mem_of_mem_take hc')
   obtain ⟨a, a1, a2, a3, a4⟩ := of_node O hw
   rw [a1, Int.toNat_natCast] at e1
   have hmN : c.1.toNat < sizeN f := by unfold sizeN; omega
   have nd1 : ndN f (ptOf c.2.1 c.2.2.1) = a := by rw [← a4]; exact nd_pt O a2
   rw [nd1, n1 c.1.toNat (by omega)]
   cases hf : c.2.2.2 with
   | true =>
    rw [hf] at e1
    have e1 : en t a c.1.toNat ≤ 0 := e1
    have g1 := tri a b c.1.toNat a2 hb hmN
    show _ ≤ _
    omega
   | false =>
    rw [hf] at e1
    have e1 : en t c.1.toNat a ≤ -1 := e1
    have g1 := tri c.1.toNat b a hmN hb a2
    show _ + 1 ≤ _
    omega
 obtain ⟨b, hb, _⟩ := truth_enters (cut_ok O) (tr 0 h0N)
 have hI := (all_in (cut_ok O)).2 b hb
 have key : ∀ a c, a < sizeN f → c < sizeN f → en t a c = gt b (ptN f a) (ptN f c) := by
  intro a c ha hcN
  have ka : known (cutF f m) (ptN f a) := pt_known ha
  have kc : known (cutF f m) (ptN f c) := pt_known hcN
  apply Int.le_antisymm
  ·obtain ⟨b', hb', hl⟩ := truth_enters (cut_ok O) (tr c hcN)
   rw [hb] at hb'; cases hb'
   have := hl _ _ ka kc
   rw [nd_pt O ha, nd_pt O hcN] at this
   have := h.dg c hcN
   have := hd c hcN
   omega
  ·have t1 := hI.tri _ _ _ kc ka kc
   have d1 := hI.dg _ (hI.lt _ kc)
   obtain ⟨y, hy, hv⟩ := truth_of (cut_ok O) hb ka kc (v := gt b (ptN f a) (ptN f c)) (by omega) (by omega)
   have := h.snd y hy a c ha hcN
   omega
 unfold tableV
 rw [hb]
 simp only [Prod.mk.injEq, and_true]
 exact sq_ext (tab_sq b) h.sq fun a c ha hcN => by rw [en_tab b ha hcN, key a c ha hcN]
end
end Go.Fade
