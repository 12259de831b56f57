/-
  Chapter 12: the document's table: what is known of each two numbers of a truth. Plain Lean; no program in sight.
-/
import Derived.Test.YtjnnbmgodbhofaaFadeSpec4
set_option linter.all false
set_option maxRecDepth 100000
namespace Go.Fade
open Go Go.Sx
def en (t : List (List Int)) (a b : Nat) : Int := (t.getD a []).getD b 0
structure Sq (N : Nat) (t : List (List Int)) : Prop where
 len : t.length = N
 row : ∀ a, a < N → (t.getD a []).length = N
theorem ent_en (t : List (List Int)) (a b : Nat) : ent t (a : Int) (b : Int) = en t a b := rfl
theorem sq_most {N : Nat} {t : List (List Int)} (h : Sq N t) {a b : Nat} (v : Int) : Sq N (mostT t a b v) := by
 refine ⟨by rw [mostT, List.length_set, h.len], fun c hc => ?_⟩
 unfold mostT
 rw [Int.toNat_natCast, Int.toNat_natCast]
 by_cases e : c = a
 ·subst e
  rw [List.getD_eq_getElem?_getD, List.getElem?_set_self (by rw [h.len]; exact hc), Option.getD_some, List.length_set]
  exact h.row c hc
 ·rw [List.getD_eq_getElem?_getD, List.getElem?_set_ne (Ne.symm e), ← List.getD_eq_getElem?_getD]
  exact h.row c hc
theorem en_most {N : Nat} {t : List (List Int)} (h : Sq N t) {a b : Nat} (ha : a < N) (hb : b < N) (v : Int) (c d : Nat) : en (mostT t a b v) c d = if c = a ∧ d = b then min (en t a b) v else en t c d := by
 unfold mostT en
 rw [Int.toNat_natCast, Int.toNat_natCast]
 by_cases e : c = a
 ·subst e
  rw [List.getD_eq_getElem?_getD (l := t.set _ _), List.getElem?_set_self (by rw [h.len]; exact ha), Option.getD_some]
  by_cases e' : d = b
  ·subst e'
   rw [if_pos ⟨rfl, rfl⟩, List.getD_eq_getElem?_getD, List.getElem?_set_self (by rw [h.row c ha]; exact hb), Option.getD_some]
  ·rw [if_neg fun hh => e' hh.2, List.getD_eq_getElem?_getD, List.getElem?_set_ne (Ne.symm e'), ← List.getD_eq_getElem?_getD]
 ·rw [if_neg fun hh => e hh.1, List.getD_eq_getElem?_getD (l := t.set _ _), List.getElem?_set_ne (Ne.symm e), ← List.getD_eq_getElem?_getD]
theorem most_le {N : Nat} {t : List (List Int)} (h : Sq N t) {a b : Nat} (ha : a < N) (hb : b < N) (v : Int) (c d : Nat) : en (mostT t a b v) c d ≤ en t c d := by
 rw [en_most h ha hb]
 split
 ·rename_i hh; rw [hh.1, hh.2]; omega
 ·exact Int.le_refl _
theorem most_at {N : Nat} {t : List (List Int)} (h : Sq N t) {a b : Nat} (ha : a < N) (hb : b < N) (v : Int) : en (mostT t a b v) a b ≤ v := by
 rw [en_most h ha hb, if_pos ⟨rfl, rfl⟩]; omega
theorem sq_ext {N : Nat} {t t' : List (List Int)} (h : Sq N t) (h' : Sq N t') (e : ∀ a b, a < N → b < N → en t a b = en t' a b) : t = t' := by
 refine List.ext_getElem (by rw [h.len, h'.len]) fun a h1 h2 => ?_
 have ha : a < N := by rw [h.len] at h1; exact h1
 have r1 := h.row a ha
 have r2 := h'.row a ha
 rw [getD_eq h1] at r1
 rw [getD_eq h2] at r2
 refine List.ext_getElem (by rw [r1, r2]) fun k k1 k2 => ?_
 have hk : k < N := by rw [r1] at k1; exact k1
 have := e a k ha hk
 unfold en at this
 rw [getD_eq h1, getD_eq h2, getD_eq k1, getD_eq k2] at this
 exact this
section
variable {f : Fading} {m : Nat}
theorem size_le (O : OkC f) : sizeN f ≤ 27 := by
 have := O.nm; have := O.nr; have := O.ns
 unfold sizeN; omega
theorem pt_month {a : Nat} (h : a ≤ f.1.length) : ptN f a = a := by unfold ptN; rw [if_pos h]
theorem pt_ref {k : Nat} (h : k < f.2.1.length) : ptN f (1 + f.1.length + k) = 13 + k := by
 unfold ptN; rw [if_neg (by omega), if_pos (by omega)]; omega
theorem pt_sample {k : Nat} : ptN f (1 + f.1.length + f.2.1.length + k) = 21 + k := by
 unfold ptN; rw [if_neg (by omega), if_neg (by omega)]; omega
theorem pt_known {a : Nat} (h : a < sizeN f) : known f (ptN f a) := by
 unfold sizeN at h
 unfold ptN known withAll
 split
 ·omega
 ·split <;> omega
theorem cut_ok (O : OkC f) : OkC (cutF f m) := ⟨O.nm, O.nr, O.ns, by show (f.2.2.2.take m).length ≤ 40; rw [List.length_take]; have := O.nc; omega, O.months, O.refs, fun c hc => O.checks c (List.mem_of_mem_take hc)⟩
def potL (f : Fading) : Nat → Int
 | 0 => 0
 | j + 1 => potL f j + (f.1.getD j (0, 0)).1
theorem pot_bd (O : OkC f) : ∀ j, j ≤ f.1.length → 0 ≤ potL f j ∧ potL f j ≤ 1000000 * (j : Int)
 | 0, _ => by simp [potL]
 | j + 1, h => by
  have ih := pot_bd O j (by omega)
  have := O.months _ (getD_mem f.1 (0, 0) j (by omega))
  simp only [potL]
  omega
theorem pot_top (O : OkC f) {j : Nat} (h : j ≤ f.1.length) : 0 ≤ potL f j ∧ potL f j ≤ 12000000 := by
 have := pot_bd O j h
 have := O.nm
 omega
def uL (f : Fading) (a : Nat) : Int := if a ≤ f.1.length then potL f a else 0
def vL (f : Fading) (a : Nat) : Int := if a ≤ f.1.length then potL f a else 33554432
theorem u_month {a : Nat} (h : a ≤ f.1.length) : uL f a = potL f a := if_pos h
theorem v_month {a : Nat} (h : a ≤ f.1.length) : vL f a = potL f a := if_pos h
theorem u_more {a : Nat} (h : f.1.length < a) : uL f a = 0 := if_neg (by omega)
theorem v_more {a : Nat} (h : f.1.length < a) : vL f a = 33554432 := if_neg (by omega)
theorem u_bd (O : OkC f) (a : Nat) : 0 ≤ uL f a ∧ uL f a ≤ 12000000 := by
 unfold uL; split
 ·exact pot_top O (by assumption)
 ·omega
theorem v_bd (O : OkC f) (a : Nat) : 0 ≤ vL f a ∧ vL f a ≤ 33554432 := by
 unfold vL; split
 ·have := pot_top O (j := a) (by assumption); omega
 ·omega
theorem u_le_v (O : OkC f) (a : Nat) : uL f a ≤ vL f a := by
 unfold uL vL; split <;> omega
structure Base (f : Fading) (m : Nat) (t : List (List Int)) : Prop where
 sq : Sq (sizeN f) t
 dg : ∀ a, a < sizeN f → en t a a ≤ 0
 top : ∀ a b, a < sizeN f → b < sizeN f → en t a b ≤ free
 fin : ∀ a b, a < sizeN f → b < sizeN f → en t a b < free → en t a b ≤ 16777216
 low : ∀ a b, a < sizeN f → b < sizeN f → uL f a - vL f b ≤ en t a b
 snd : ∀ y, Truth (cutF f m) y → ∀ a b, a < sizeN f → b < sizeN f → y (ptN f a) - y (ptN f b) ≤ en t a b
theorem base_most (O : OkC f) {t : List (List Int)} (h : Base f m t) {a b : Nat} (ha : a < sizeN f) (hb : b < sizeN f) {v : Int} (hv : v ≤ 16777216) (hl : uL f a - vL f b ≤ v) (hs : ∀ y, Truth (cutF f m) y → y (ptN f a) - y (ptN f b) ≤ v) :
  Base f m (mostT t a b v) ∧ (∀ c d, en (mostT t a b v) c d ≤ en t c d) ∧ en (mostT t a b v) a b ≤ v := by
 refine ⟨⟨sq_most h.sq v, fun c hc => Int.le_trans (most_le h.sq ha hb v c c) (h.dg c hc), fun c d hc hd => Int.le_trans (most_le h.sq ha hb v c d) (h.top c d hc hd), fun c d hc hd => ?_, fun c d hc hd => ?_, fun y hy c d hc hd => ?_⟩, most_le h.sq ha hb v, most_at h.sq ha hb v⟩
 ·rw [en_most h.sq ha hb]
  split
  ·intro _; omega
  ·exact h.fin c d hc hd
 ·rw [en_most h.sq ha hb]
  split
  ·rename_i e
   have := h.low c d hc hd
   rw [e.1, e.2] at this ⊢
   omega
  ·exact h.low c d hc hd
 ·rw [en_most h.sq ha hb]
  split
  ·rename_i e
   have := h.snd y hy c d hc hd
   have := hs y hy
   rw [e.1, e.2] at *
   omega
  ·exact h.snd y hy c d hc hd
structure Edges (f : Fading) (i k s c : Nat) (t : List (List Int)) : Prop where
 mo : ∀ j, j < i → en t (j + 1) j ≤ (f.1.getD j (0, 0)).2 ∧ en t j (j + 1) ≤ -(f.1.getD j (0, 0)).1
 re : ∀ j, j < k → en t (1 + f.1.length + j) 0 ≤ (f.2.1.getD j (0, 0)).2 ∧ en t 0 (1 + f.1.length + j) ≤ -(f.2.1.getD j (0, 0)).1
 up : ∀ j, j + 1 < k → en t (1 + f.1.length + j) (1 + f.1.length + (j + 1)) ≤ -1
 sa : ∀ j, j < s → en t (1 + f.1.length + f.2.1.length + j) 0 ≤ 16777216 ∧ en t 0 (1 + f.1.length + f.2.1.length + j) ≤ -1
 ch : ∀ j, j < c → cond (f.2.2.2.getD j (0, 0, 0, false)).2.2.2 (en t (ref12u_Of (f, (f.2.2.2.getD j (0, 0, 0, false)).2.1, (f.2.2.2.getD j (0, 0, 0, false)).2.2.1)).toNat (f.2.2.2.getD j (0, 0, 0, false)).1.toNat ≤ 0)
  (en t (f.2.2.2.getD j (0, 0, 0, false)).1.toNat (ref12u_Of (f, (f.2.2.2.getD j (0, 0, 0, false)).2.1, (f.2.2.2.getD j (0, 0, 0, false)).2.2.1)).toNat ≤ -1)
theorem Edges.le {i k s c : Nat} {t t' : List (List Int)} (h : Edges f i k s c t) (hl : ∀ a b, en t' a b ≤ en t a b) : Edges f i k s c t' := by
 refine ⟨fun j hj => ⟨Int.le_trans (hl _ _) (h.mo j hj).1, Int.le_trans (hl _ _) (h.mo j hj).2⟩, fun j hj => ⟨Int.le_trans (hl _ _) (h.re j hj).1, Int.le_trans (hl _ _) (h.re j hj).2⟩, fun j hj => Int.le_trans (hl _ _) (h.up j hj),
  fun j hj => ⟨Int.le_trans (hl _ _) (h.sa j hj).1, Int.le_trans (hl _ _) (h.sa j hj).2⟩, fun j hj => ?_⟩
 have := h.ch j hj
 cases hc : (f.2.2.2.getD j (0, 0, 0, false)).2.2.2 with
 | true => rw [hc] at this; exact Int.le_trans (hl _ _) this
 | false => rw [hc] at this; exact Int.le_trans (hl _ _) this
theorem of_node (O : OkC f) {what index : Int} (hw : (what = 0 ∧ 0 ≤ index ∧ index < (f.2.1.length : Int)) ∨ (what = 1 ∧ 0 ≤ index ∧ index < f.2.2.1)) :
  ∃ a : Nat, ref12u_Of (f, what, index) = (a : Int) ∧ a < sizeN f ∧ f.1.length < a ∧ ptN f a = ptOf what index := by
 have := O.ns
 rcases hw with ⟨rfl, h1, h2⟩ | ⟨rfl, h1, h2⟩
 ·refine ⟨1 + f.1.length + index.toNat, ?_, by unfold sizeN; omega, by omega, ?_⟩
  ·show (1 + (f.1.length : Int)) + index = _
   omega
  ·rw [pt_ref (by omega)]
   show _ = (13 + index).toNat
   omega
 ·refine ⟨1 + f.1.length + f.2.1.length + index.toNat, ?_, by unfold sizeN; omega, by omega, ?_⟩
  ·show ((1 + (f.1.length : Int)) + (f.2.1.length : Int)) + index = _
   omega
  ·rw [pt_sample]
   show _ = (21 + index).toNat
   omega
theorem take_getD {α : Type} (l : List α) (d : α) {m j : Nat} (h : j < m) : (l.take m).getD j d = l.getD j d := by
 simp [List.getD, List.getElem?_take, h]
theorem month_step (O : OkC f) {t : List (List Int)} {i : Nat} (h : Base f m t) (hi : i < f.1.length) :
  Base f m (mostT (mostT t ((i + 1 : Nat) : Int) i (f.1.getD i (0, 0)).2) i ((i + 1 : Nat) : Int) (-(f.1.getD i (0, 0)).1)) ∧ (Edges f i 0 0 0 t → Edges f (i + 1) 0 0 0 (mostT (mostT t ((i + 1 : Nat) : Int) i (f.1.getD i (0, 0)).2) i ((i + 1 : Nat) : Int) (-(f.1.getD i (0, 0)).1))) := by
 have hv := O.months _ (getD_mem f.1 (0, 0) i hi)
 have hN : i + 1 < sizeN f := by unfold sizeN; omega
 have p : potL f (i + 1) = potL f i + (f.1.getD i (0, 0)).1 := rfl
 obtain ⟨b1, l1, a1⟩ := base_most O h (a := i + 1) (b := i) (v := (f.1.getD i (0, 0)).2) hN (by omega) (by omega) (by rw [u_month (by omega), v_month (by omega)]; omega) (fun y hy => by
  rw [pt_month (by omega), pt_month (by omega)]; exact (hy.months i hi).2)
 obtain ⟨b2, l2, a2⟩ := base_most O b1 (a := i) (b := i + 1) (v := -(f.1.getD i (0, 0)).1) (by omega) hN (by omega) (by rw [u_month (by omega), v_month (by omega)]; omega) (fun y hy => by
  rw [pt_month (by omega), pt_month (by omega)]; have : (f.1.getD i (0, 0)).1 ≤ y (i + 1) - y i := (hy.months i hi).1; omega)
 refine ⟨b2, fun he => ?_⟩
 have he := he.le fun a b => Int.le_trans (l2 a b) (l1 a b)
 refine ⟨fun j hj => ?_, he.re, he.up, he.sa, he.ch⟩
 by_cases e : j = i
 ·subst e; exact ⟨Int.le_trans (l2 _ _) a1, a2⟩
 ·exact he.mo j (by omega)
theorem ref_step (O : OkC f) {t : List (List Int)} {k : Nat} (h : Base f m t) (hk : k < f.2.1.length) {t' : List (List Int)}
  (ht : t' = mostT (mostT t ((1 + f.1.length + k : Nat) : Int) ((0 : Nat) : Int) (f.2.1.getD k (0, 0)).2) ((0 : Nat) : Int) ((1 + f.1.length + k : Nat) : Int) (-(f.2.1.getD k (0, 0)).1)) :
  Base f m t' ∧ (Edges f f.1.length k 0 0 t → (0 < k → ∀ t'', t'' = mostT t' ((1 + f.1.length + (k - 1) : Nat) : Int) ((1 + f.1.length + k : Nat) : Int) (-1) → Base f m t'' ∧ Edges f f.1.length (k + 1) 0 0 t'') ∧ (k = 0 → Edges f f.1.length (k + 1) 0 0 t')) := by
 have hv := O.refs _ (getD_mem f.2.1 (0, 0) k hk)
 have hN : 1 + f.1.length + k < sizeN f := by unfold sizeN; omega
 have h0 : 0 < sizeN f := by unfold sizeN; omega
 have p0 : potL f 0 = 0 := rfl
 obtain ⟨b1, l1, a1⟩ := base_most O h (a := 1 + f.1.length + k) (b := 0) (v := (f.2.1.getD k (0, 0)).2) hN h0 (by omega) (by rw [u_more (by omega), v_month (by omega)]; omega) (fun y hy => by
  rw [pt_ref hk, pt_month (by omega)]; exact (hy.refs k hk).2)
 obtain ⟨b2, l2, a2⟩ := base_most O b1 (a := 0) (b := 1 + f.1.length + k) (v := -(f.2.1.getD k (0, 0)).1) h0 hN (by omega) (by rw [u_month (by omega), v_more (by omega)]; omega) (fun y hy => by
  rw [pt_ref hk, pt_month (by omega)]; have : (f.2.1.getD k (0, 0)).1 ≤ y (13 + k) - y 0 := (hy.refs k hk).1; omega)
 rw [← ht] at b2 l2 a2
 refine ⟨b2, fun he => ?_⟩
 have he := he.le fun a b => Int.le_trans (l2 a b) (l1 a b)
 have hre : ∀ j, j < k + 1 → en t' (1 + f.1.length + j) 0 ≤ (f.2.1.getD j (0, 0)).2 ∧ en t' 0 (1 + f.1.length + j) ≤ -(f.2.1.getD j (0, 0)).1 := by
  intro j hj
  by_cases e : j = k
  ·subst e; exact ⟨Int.le_trans (l2 _ _) a1, a2⟩
  ·exact he.re j (by omega)
 refine ⟨fun hk0 t'' ht'' => ?_, fun hk0 => ⟨he.mo, hre, fun j hj => by omega, he.sa, he.ch⟩⟩
 obtain ⟨b3, l3, a3⟩ := base_most O b2 (a := 1 + f.1.length + (k - 1)) (b := 1 + f.1.length + k) (v := -1) (by omega) hN (by omega) (by rw [u_more (by omega), v_more (by omega)]; omega) (fun y hy => by
  rw [pt_ref hk, pt_ref (by omega)]
  have := hy.more (k - 1) (by show k - 1 + 1 < f.2.1.length; omega)
  rw [show k - 1 + 1 = k by omega] at this
  omega)
 rw [← ht''] at b3 l3 a3
 refine ⟨b3, ?_⟩
 refine ⟨(he.le l3).mo, fun j hj => ⟨Int.le_trans (l3 _ _) (hre j hj).1, Int.le_trans (l3 _ _) (hre j hj).2⟩, fun j hj => ?_, (he.le l3).sa, (he.le l3).ch⟩
 by_cases e : j + 1 = k
 ·rw [e]
  have : j = k - 1 := by omega
  rw [this]; exact a3
 ·exact Int.le_trans (l3 _ _) (he.up j (by omega))
theorem sample_step (O : OkC f) {t : List (List Int)} {k : Nat} (h : Base f m t) (hk : k < f.2.2.1.toNat) {t' : List (List Int)}
  (ht : t' = mostT (mostT t ((1 + f.1.length + f.2.1.length + k : Nat) : Int) ((0 : Nat) : Int) 16777216) ((0 : Nat) : Int) ((1 + f.1.length + f.2.1.length + k : Nat) : Int) (-1)) :
  Base f m t' ∧ (Edges f f.1.length f.2.1.length k 0 t → Edges f f.1.length f.2.1.length (k + 1) 0 t') := by
 have hN : 1 + f.1.length + f.2.1.length + k < sizeN f := by unfold sizeN; omega
 have h0 : 0 < sizeN f := by unfold sizeN; omega
 have p0 : potL f 0 = 0 := rfl
 obtain ⟨b1, l1, a1⟩ := base_most O h (a := 1 + f.1.length + f.2.1.length + k) (b := 0) (v := 16777216) hN h0 (by omega) (by rw [u_more (by omega), v_month (by omega)]; omega) (fun y hy => by
  rw [pt_sample, pt_month (by omega)]; exact (hy.samples k hk).2)
 obtain ⟨b2, l2, a2⟩ := base_most O b1 (a := 0) (b := 1 + f.1.length + f.2.1.length + k) (v := -1) h0 hN (by omega) (by rw [u_month (by omega), v_more (by omega)]; omega) (fun y hy => by
  rw [pt_sample, pt_month (by omega)]; have := (hy.samples k hk).1; omega)
 rw [← ht] at b2 l2 a2
 refine ⟨b2, fun he => ?_⟩
 have he := he.le fun a b => Int.le_trans (l2 a b) (l1 a b)
 refine ⟨he.mo, he.re, he.up, fun j hj => ?_, he.ch⟩
 by_cases e : j = k
 ·subst e; exact ⟨Int.le_trans (l2 _ _) a1, a2⟩
 ·exact he.sa j (by omega)
theorem check_step (O : OkC f) {t : List (List Int)} {c : Nat} (h : Base f m t) (hc : c < m) (hm : m ≤ f.2.2.2.length) {C : Check} (hC : C = f.2.2.2.getD c (0, 0, 0, false)) :
  ∃ n mo : Nat, ref12u_Of (f, C.2.1, C.2.2.1) = (n : Int) ∧ C.1 = (mo : Int) ∧ n < sizeN f ∧ mo < sizeN f ∧
   (C.2.2.2 = true → Base f m (mostT t (n : Int) (mo : Int) 0) ∧ (Edges f f.1.length f.2.1.length f.2.2.1.toNat c t → Edges f f.1.length f.2.1.length f.2.2.1.toNat (c + 1) (mostT t (n : Int) (mo : Int) 0))) ∧
   (C.2.2.2 = false → Base f m (mostT t (mo : Int) (n : Int) (-1)) ∧ (Edges f f.1.length f.2.1.length f.2.2.1.toNat c t → Edges f f.1.length f.2.1.length f.2.2.1.toNat (c + 1) (mostT t (mo : Int) (n : Int) (-1)))) := by
 have hmem : C ∈ f.2.2.2 := by rw [hC]; exact getD_mem _ _ c (by omega)
 have hcut : C ∈ (cutF f m).2.2.2 := by
  rw [hC, ← take_getD f.2.2.2 _ hc]
  exact getD_mem (f.2.2.2.take m) _ c (by rw [List.length_take]; omega)
 obtain ⟨⟨m0, m1⟩, hw⟩ := O.checks C hmem
 obtain ⟨n, n1, n2, n3, n4⟩ := of_node O hw
 have hmN : C.1.toNat < sizeN f := by unfold sizeN; omega
 have hml : C.1.toNat ≤ f.1.length := by omega
 have hp := pot_top O hml
 refine ⟨n, C.1.toNat, n1, by omega, n2, hmN, fun hf => ?_, fun hf => ?_⟩
 ·obtain ⟨b1, l1, a1⟩ := base_most O h (a := n) (b := C.1.toNat) (v := 0) n2 hmN (by omega) (by rw [u_more n3, v_month hml]; omega) (fun y hy => by
   have := hy.checks C hcut
   rw [hf] at this
   have this : y (ptOf C.2.1 C.2.2.1) ≤ y C.1.toNat := this
   rw [n4, pt_month hml]; omega)
  refine ⟨b1, fun he => ?_⟩
  have he := he.le l1
  refine ⟨he.mo, he.re, he.up, he.sa, fun j hj => ?_⟩
  by_cases e : j = c
  ·subst e
   rw [← hC, hf, n1]
   exact a1
  ·exact he.ch j (by omega)
 ·obtain ⟨b1, l1, a1⟩ := base_most O h (a := C.1.toNat) (b := n) (v := -1) hmN n2 (by omega) (by rw [u_month hml, v_more n3]; omega) (fun y hy => by
   have := hy.checks C hcut
   rw [hf] at this
   have this : y C.1.toNat + 1 ≤ y (ptOf C.2.1 C.2.2.1) := this
   rw [n4, pt_month hml]; omega)
  refine ⟨b1, fun he => ?_⟩
  have he := he.le l1
  refine ⟨he.mo, he.re, he.up, he.sa, fun j hj => ?_⟩
  by_cases e : j = c
  ·subst e
   rw [← hC, hf, n1]
   exact a1
  ·exact he.ch j (by omega)
end
end Go.Fade
