/-
  Chapter 3: a program bakes leads at all places just if it is one that the search may find.
-/
import Derived.Test.YtfjkenhmaebpmaaFireP13
import Derived.Test.YtfjkenhmaebpmaaFireP14
set_option linter.all false
set_option maxRecDepth 100000
set_option linter.unusedVariables false
namespace Go.Fire
open Go Go.Sx
def capS (hold : Int) (b : Bool) (m : Int) : Int := cond (decide (m < hold)) (cond b (m + 1) 0) m
def capF (hold : Int) : List Bool → Int → Int
 | [], m => m
 | b :: l, m => capF hold l (capS hold b m)
theorem capF_snoc {hold : Int} {b : Bool} : ∀ {l : List Bool} {m : Int}, capF hold (l ++ [b]) m = capS hold b (capF hold l m)
 | [], _ => rfl
 | c :: l, m => by rw [List.cons_append, capF, capF, capF_snoc]
theorem capS_hold {hold : Int} {b : Bool} : capS hold b hold = hold := by
 rw [capS, decide_eq_false (Int.lt_irrefl _)]; rfl
theorem capF_hold {hold : Int} : ∀ {l : List Bool}, capF hold l hold = hold
 | [] => rfl
 | b :: l => by rw [capF, capS_hold, capF_hold]
theorem capS_bd {hold m : Int} {b : Bool} (h : 0 ≤ m ∧ m ≤ hold) : 0 ≤ capS hold b m ∧ capS hold b m ≤ hold := by
 unfold capS
 by_cases hm : m < hold
 ·rw [decide_eq_true hm]
  cases b with
  | true => simp only [cond_true]; omega
  | false => simp only [cond_true, cond_false]; omega
 ·rw [decide_eq_false hm]; exact h
theorem capS_mono {hold m m' : Int} {b b' : Bool} (hb : b = true → b' = true) (h : 0 ≤ m ∧ m ≤ m') (h' : m' ≤ hold) : capS hold b m ≤ capS hold b' m' := by
 have B := capS_bd (hold := hold) (m := m') (b := b') (by omega)
 unfold capS at B ⊢
 by_cases hm : m < hold
 ·rw [decide_eq_true hm]
  cases b with
  | true =>
   rw [hb rfl] at B ⊢
   by_cases hm' : m' < hold
   ·rw [decide_eq_true hm']; simp only [cond_true]; omega
   ·rw [decide_eq_false hm']; simp only [cond_true, cond_false]; omega
  | false => simp only [cond_true, cond_false]; exact B.1
 ·have hm' : ¬ m' < hold := by omega
  rw [decide_eq_false hm, decide_eq_false hm']; simp only [cond_false]; omega
theorem capF_bd {hold : Int} : ∀ {l : List Bool} {m : Int}, (0 ≤ m ∧ m ≤ hold) → 0 ≤ capF hold l m ∧ capF hold l m ≤ hold
 | [], _, h => h
 | b :: l, m, h => capF_bd (l := l) (capS_bd h)
theorem capF_mono {α : Type} {hold : Int} {f g : α → Bool} : ∀ {l : List α} {m m' : Int}, (∀ a ∈ l, f a = true → g a = true) → (0 ≤ m ∧ m ≤ m') → m' ≤ hold → capF hold (l.map f) m ≤ capF hold (l.map g) m'
 | [], _, _, _, h, _ => h.2
 | a :: l, m, m', hi, h, h' => by
  rw [List.map_cons, List.map_cons, capF, capF]
  have h1 := capS_mono (hi a List.mem_cons_self) h h'
  have h2 := capS_bd (hold := hold) (m := m) (b := f a) (by omega)
  have h3 := capS_bd (hold := hold) (m := m') (b := g a) (by omega)
  exact capF_mono (fun x hx => hi x (List.mem_cons_of_mem _ hx)) ⟨h2.1, h1⟩ h3.2
theorem held_cap {s : Stand} : ∀ {l : List Int} {m : Int}, (0 ≤ m ∧ m < s.2.1.2.2.2.1) → (heldV s l m = true ↔ capF s.2.1.2.2.2.1 (l.map (soakV s)) m = s.2.1.2.2.2.1)
 | [], m, h => by
  rw [heldV, List.map_nil, capF]
  exact ⟨fun h => (by cases h), fun h => by omega⟩
 | a :: l, m, h => by
  rw [heldV, List.map_cons, capF, capS, decide_eq_true h.2]
  cases soakV s a with
  | false => exact held_cap (by omega)
  | true =>
   simp only [Bool.not_true, cond_false, cond_true]
   by_cases he : m + 1 = s.2.1.2.2.2.1
   ·rw [show (m + 1 == s.2.1.2.2.2.1) = true by simpa using he, he, capF_hold]; simp
   ·rw [show (m + 1 == s.2.1.2.2.2.1) = false by simpa using he]
    exact held_cap (by omega)
def allSoak (l : List Stand) (set : Int) : Bool := l.all fun s => soakV s set
theorem stR_cap {f : Fire} {l : List Stand} : ∀ {a : List Int}, (stR f l a).2 = capF f.2.2.2.1 (a.reverse.map (allSoak l)) 0
 | [] => rfl
 | x :: a => by
  rw [List.reverse_cons, List.map_append, List.map_singleton, capF_snoc, ← stR_cap]; rfl
theorem stR_head {f : Fire} {l : List Stand} {x : Int} {a : List Int} : (stR f l (x :: a)).1 = x := rfl
theorem soak_mono {s : Stand} (hp : placeB s.2.2 = true) {a b : Int} (h : a ≤ b) (hs : soakV s a = true) : soakV s b = true := by
 have P := place_iff.1 hp
 have h1 : 1000 * s.2.1.2.1 ≤ s.2.2.1.1 * max 0 (a - s.1.2.1) + 1000 * s.2.2.2.1 := of_decide_eq_true hs
 have h2 : s.2.2.1.1 * max 0 (a - s.1.2.1) ≤ s.2.2.1.1 * max 0 (b - s.1.2.1) := Int.mul_le_mul_of_nonneg_left (by omega) (by omega)
 refine decide_eq_true ?_
 show 1000 * s.2.1.2.1 ≤ s.2.2.1.1 * max 0 (b - s.1.2.1) + 1000 * s.2.2.2.1
 omega
theorem least_soak : ∀ {l : List Stand}, l ≠ [] → (∀ s ∈ l, placeB s.2.2 = true) → ∃ s ∈ l, ∀ set, soakV s set = true → allSoak l set = true
 | [], h, _ => absurd rfl h
 | [s], _, _ => ⟨s, List.mem_cons_self, fun set h => by simp [allSoak, h]⟩
 | s :: t :: l, _, hp => by
  obtain ⟨u, hu, h⟩ := least_soak (l := t :: l) (by simp) (fun x hx => hp x (List.mem_cons_of_mem _ hx))
  by_cases hc : ∀ set, soakV u set = true → soakV s set = true
  ·refine ⟨u, List.mem_cons_of_mem _ hu, fun set hs => ?_⟩
   have := h set hs
   simp only [allSoak, List.all_cons] at this ⊢
   rw [hc set hs, this]; rfl
  ·obtain ⟨a, ha⟩ := Classical.not_forall.1 hc
   obtain ⟨ha1, ha2⟩ := Classical.not_imp.1 ha
   refine ⟨s, List.mem_cons_self, fun set hs => ?_⟩
   have hu2 : soakV u set = true := by
    by_cases hle : set ≤ a
    ·exact absurd (soak_mono (hp s List.mem_cons_self) hle hs) ha2
    ·exact soak_mono (hp u (List.mem_cons_of_mem _ hu)) (by omega) ha1
   have := h set hu2
   simp only [allSoak, List.all_cons] at this ⊢
   rw [hs, this]; rfl
theorem all_held {l : List Stand} {f : Fire} {prog : List Int} (hne : l ≠ []) (hp : ∀ s ∈ l, placeB s.2.2 = true) (hf : ∀ s ∈ l, s.2.1 = f) (hh : 1 ≤ f.2.2.2.1) :
  (∀ s ∈ l, heldV s prog 0 = true) ↔ capF f.2.2.2.1 (prog.map (allSoak l)) 0 = f.2.2.2.1 := by
 constructor
 ·intro h
  obtain ⟨s, hs, hmin⟩ := least_soak hne hp
  have h1 := (held_cap (s := s) (l := prog) (m := 0) (by rw [hf s hs]; omega)).1 (h s hs)
  rw [hf s hs] at h1
  have h2 := capF_mono (hold := f.2.2.2.1) (l := prog) (m := 0) (m' := 0) (fun a _ => hmin a) (by omega) (by omega)
  have h3 := capF_bd (hold := f.2.2.2.1) (l := prog.map (allSoak l)) (m := 0) (by omega)
  omega
 ·intro h s hs
  refine (held_cap (s := s) (l := prog) (m := 0) (by rw [hf s hs]; omega)).2 ?_
  rw [hf s hs]
  have h2 := capF_mono (hold := f.2.2.2.1) (l := prog) (f := allSoak l) (g := soakV s) (m := 0) (m' := 0) (fun a _ ha => List.all_eq_true.1 ha s hs) (by omega) (by omega)
  have h3 := capF_bd (hold := f.2.2.2.1) (l := prog.map (soakV s)) (m := 0) (by omega)
  omega
theorem chn_zero : ∀ {n : Int} {R : List Int}, 1 ≤ n → ((chn n R).1 = 0 ↔ ∀ r ∈ R, r < 0)
 | _, [], _ => ⟨fun _ r hr => (by cases hr), fun _ => rfl⟩
 | n, r :: R, hn => by
  rw [chn]
  cases hr : decide (0 ≤ r) with
  | true =>
   have := of_decide_eq_true hr
   rw [cond_true]
   exact ⟨fun h => by simp only at h; omega, fun h => by have := h r List.mem_cons_self; omega⟩
  | false =>
   have := of_decide_eq_false hr
   rw [cond_false, chn_zero (n := n + 1) (by omega)]
   exact ⟨fun h x hx => by
    rcases List.mem_cons.1 hx with rfl | hx
    ·omega
    ·exact h x hx, fun h x hx => h x (List.mem_cons_of_mem _ hx)⟩
theorem first_neg {l : List Int} {from_ : Int} {F : Int × Int → Bool} : ∀ (n i : Nat), l.length ≤ i + n → (firstH from_ F (restOf l i) < 0 ↔ ∀ j : Nat, i ≤ j → j < l.length → from_ ≤ (j : Int) → F (l.getD (j - 1) 0, l.getD j 0) = true)
 | 0, i, hn => by
  rw [firstH_end (by omega)]
  exact ⟨fun _ j h1 h2 => by omega, fun _ => by omega⟩
 | n + 1, i, hn => by
  by_cases hil : i < l.length
  ·have ih := first_neg (l := l) (from_ := from_) (F := F) n (i + 1) (by omega)
   rw [firstH_step hil]
   cases hg : (decide (from_ ≤ (i : Int)) && !F (l.getD (i - 1) 0, l.getD i 0)) with
   | true =>
    rw [Bool.and_eq_true] at hg
    rw [cond_true]
    refine ⟨fun h => by omega, fun h => ?_⟩
    have := h i (Nat.le_refl _) hil (of_decide_eq_true hg.1)
    rw [this] at hg; simp at hg
   | false =>
    rw [cond_false, ih]
    refine ⟨fun h j h1 h2 h3 => ?_, fun h j h1 h2 h3 => h j (by omega) h2 h3⟩
    by_cases hij : j = i
    ·subst hij
     rw [decide_eq_true h3, Bool.true_and, Bool.not_eq_false'] at hg
     exact hg
    ·exact h j (by omega) h2 h3
  ·rw [firstH_end (by omega)]
   exact ⟨fun _ j h1 h2 => by omega, fun _ => by omega⟩
structure Keeps (s : Stand) (l : List Int) : Prop where
 first : coldV s (l.getD 0 0) s.2.1.1 = true
 top : ∀ i, i < l.length → coldV s (l.getD i 0) s.2.1.2.2.1 = true
 rise : ∀ i, 1 ≤ i → i < l.length → slowV s (l.getD (i - 1) 0) (l.getD i 0) s.2.1.2.2.2.2.1 = true
 fall : ∀ i, 1 ≤ i → i < l.length → slowV s (l.getD i 0) (l.getD (i - 1) 0) s.2.1.2.2.2.2.2 = true
 hold : heldV s l 0 = true
 last : coldV s (l.getD (l.length - 1) 0) s.2.1.1 = true
theorem neg_cond {b : Bool} {x : Int} (hx : 0 ≤ x) : cond (!b) x (-1) < 0 ↔ b = true := by
 cases b with
 | true => simp
 | false => simp; omega
theorem keeps_iff {s : Stand} {l : List Int} (hl : 1 ≤ l.length) (hh : 1 ≤ s.2.1.2.2.2.1) : (fire_stand_broken (s, l)).1 = 0 ↔ Keeps s l := by
 rw [broken_chn hl hh, chn_zero (by omega)]
 have hrun := run_held (s := s) (l := l) (now := 0) (best := 0) hh (by omega) (by omega)
 have e1 : cond (!coldV s (l.getD 0 0) s.2.1.1) 0 (-1) < (0 : Int) ↔ coldV s (l.getD 0 0) s.2.1.1 = true := neg_cond (by omega)
 have e5 : cond (decide (runMax s l 0 0 < s.2.1.2.2.2.1)) 0 (-1) < (0 : Int) ↔ heldV s l 0 = true := by rw [hrun]; exact neg_cond (by omega)
 have e6 : cond (!coldV s (l.getD (l.length - 1) 0) s.2.1.1) ((l.length : Int) - 1) (-1) < 0 ↔ coldV s (l.getD (l.length - 1) 0) s.2.1.1 = true := neg_cond (by omega)
 simp only [sureR, List.forall_mem_cons]
 rw [e1, e5, e6, first_neg l.length 0 (by omega), first_neg l.length 0 (by omega), first_neg l.length 0 (by omega)]
 constructor
 ·rintro ⟨h1, h2, h3, h4, h5, h6, _⟩
  exact ⟨h1, fun i hi => h2 i (Nat.zero_le _) hi (by omega), fun i h hi => h3 i (Nat.zero_le _) hi (by omega), fun i h hi => h4 i (Nat.zero_le _) hi (by omega), h5, h6⟩
 ·intro K
  exact ⟨K.first, fun i _ hi _ => K.top i hi, fun i _ hi h => K.rise i (by omega) hi, fun i _ hi h => K.fall i (by omega) hi, K.hold, K.last, fun x hx => by cases hx⟩
structure Way (k : Kiln) (f : Fire) (l : List Stand) (p : List Int) : Prop where
 num : ∀ i, i < p.length → isNum k (p.getD i 0)
 first : 0 < p.length → allCold l (p.getD 0 0) f.1 = true
 top : ∀ i, i < p.length → allCold l (p.getD i 0) f.2.2.1 = true
 two : ∀ i, 1 ≤ i → i < p.length → max (p.getD i 0 - p.getD (i - 1) 0) (p.getD (i - 1) 0 - p.getD i 0) ≤ k.2.2.1 ∧ l.all (goesV f (p.getD (i - 1) 0) (p.getD i 0)) = true
theorem getD_snoc {p : List Int} {x : Int} {i : Nat} : (p ++ [x]).getD i 0 = if i < p.length then p.getD i 0 else if i = p.length then x else 0 := by
 simp only [List.getD_eq_getElem?_getD, List.getElem?_append]
 by_cases h : i < p.length
 ·simp [h]
 ·by_cases h2 : i = p.length
  ·simp [h2]
  ·simp [h, h2, List.getElem?_singleton, show i - p.length ≠ 0 by omega]
variable {k : Kiln} {f : Fire} {l : List Stand}
theorem way_iff (hs : 50 ≤ k.2.2.2) : ∀ {a : List Int}, vaR k f l a ↔ Way k f l a.reverse
 | [] => ⟨fun _ => ⟨fun i h => by simp at h, fun h => by simp at h, fun i h => by simp at h, fun i _ h => by simp at h⟩, fun _ => trivial⟩
 | x :: r => by
  have ih := way_iff hs (a := r)
  have hlen : (x :: r).reverse.length = r.length + 1 := by simp
  have hrl : r.reverse.length = r.length := by simp
  have hx : (r.reverse ++ [x]).getD r.length 0 = x := by rw [getD_snoc, hrl]; simp
  have hi : ∀ i, i < r.length → (r.reverse ++ [x]).getD i 0 = r.reverse.getD i 0 := fun i h => by rw [getD_snoc, hrl]; simp [h]
  have hlast : ∀ {y : Int} {r' : List Int}, r = y :: r' → r.reverse.getD (r.length - 1) 0 = y := fun e => by
   subst e
   rw [List.reverse_cons, getD_snoc]; simp
  have hok : vaR k f l r → (okT k f l (stR f l r) x = true ↔ (allCold l x f.2.2.1 = true ∧ (r = [] → allCold l x f.1 = true) ∧ (r ≠ [] → max (x - r.reverse.getD (r.length - 1) 0) (r.reverse.getD (r.length - 1) 0 - x) ≤ k.2.2.1 ∧ l.all (goesV f (r.reverse.getD (r.length - 1) 0) x) = true))) := by
   intro hv
   cases r with
   | nil =>
    show ((allCold l x f.1 && allCold l x f.2.2.1) = true) ↔ _
    rw [Bool.and_eq_true]
    exact ⟨fun h => ⟨h.2, fun _ => h.1, fun h => absurd rfl h⟩, fun h => ⟨h.2.1 rfl, h.1⟩⟩
   | cons y r' =>
    have hy := va_digits hs hv y List.mem_cons_self
    have e : okT k f l (stR f l (y :: r')) x = followsV k.2.2.1 f l y x := by
     unfold okT
     rw [stR_head, show (y == -1) = false by rw [beq_eq_false_iff_ne]; omega]; rfl
    rw [e, hlast rfl, followsV]
    simp only [Bool.and_eq_true, decide_eq_true_eq]
    exact ⟨fun h => ⟨h.1.2, fun h => (by cases h), fun _ => ⟨h.1.1, h.2⟩⟩, fun h => ⟨⟨(h.2.2 (by simp)).1, h.1⟩, (h.2.2 (by simp)).2⟩⟩
  rw [List.reverse_cons]
  constructor
  ·rintro ⟨h1, h2, h3⟩
   have W := ih.1 h1
   obtain ⟨o1, o2, o3⟩ := (hok h1).1 h3
   refine ⟨fun i h => ?_, fun h => ?_, fun i h => ?_, fun i h0 h => ?_⟩
   ·rw [List.length_append, List.length_singleton, hrl] at h
    by_cases hir : i < r.length
    ·rw [hi i hir]; exact W.num i (by omega)
    ·rw [show i = r.length by omega, hx]; exact h2
   ·by_cases hir : 0 < r.length
    ·rw [hi 0 hir]; exact W.first (by omega)
    ·have e : r = [] := List.eq_nil_of_length_eq_zero (by omega)
     have := hx
     rw [show r.length = 0 by omega] at this
     rw [this]; exact o2 e
   ·rw [List.length_append, List.length_singleton, hrl] at h
    by_cases hir : i < r.length
    ·rw [hi i hir]; exact W.top i (by omega)
    ·rw [show i = r.length by omega, hx]; exact o1
   ·rw [List.length_append, List.length_singleton, hrl] at h
    by_cases hir : i < r.length
    ·rw [hi i hir, hi (i - 1) (by omega)]; exact W.two i h0 (by omega)
    ·have e : i = r.length := by omega
     subst e
     rw [hx, hi (r.length - 1) (by omega)]
     exact o3 (fun e => by rw [e] at h0; simp at h0)
  ·intro W
   rw [show (r.reverse ++ [x]) = (r.reverse ++ [x]) from rfl] at W
   have hll : (r.reverse ++ [x]).length = r.length + 1 := by simp
   have h1 : vaR k f l r := ih.2 ⟨fun i h => by rw [← hi i (by omega)]; exact W.num i (by omega), fun h => by rw [← hi 0 (by omega)]; exact W.first (by omega), fun i h => by rw [← hi i (by omega)]; exact W.top i (by omega),
    fun i h0 h => by rw [← hi i (by omega), ← hi (i - 1) (by omega)]; exact W.two i h0 (by omega)⟩
   refine ⟨h1, ?_, (hok h1).2 ⟨?_, fun e => ?_, fun e => ?_⟩⟩
   ·have := W.num r.length (by omega); rw [hx] at this; exact this
   ·have := W.top r.length (by omega); rw [hx] at this; exact this
   ·have := W.first (by omega)
    rw [e] at this; exact this
   ·have hr : 1 ≤ r.length := by cases r with | nil => exact absurd rfl e | cons y r' => simp
    have := W.two r.length hr (by omega)
    rw [hx, hi (r.length - 1) (by omega)] at this; exact this
end Go.Fire
