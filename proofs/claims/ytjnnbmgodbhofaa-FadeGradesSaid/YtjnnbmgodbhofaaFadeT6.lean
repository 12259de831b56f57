/-
  Chapter 12: FadeGrades: its condition.
-/
import Derived.Test.YtjnnbmgodbhofaaFadeT5
set_option linter.all false
set_option maxRecDepth 100000
set_option maxHeartbeats 4000000
namespace Go.Fade
open Go Go.Sx
theorem prefix_thr : ∀ (R : Nat) (p : Nat → Prop), (∀ k, k + 1 < R → p (k + 1) → p k) → ∃ L, L ≤ R ∧ ∀ k, k < R → (p k ↔ k < L)
 | 0, _, _ => ⟨0, Nat.le_refl 0, fun k hk => by omega⟩
 | R + 1, p, h => by
  obtain ⟨L, h1, h2⟩ := prefix_thr R p fun k hk => h k (by omega)
  by_cases hp : p R
  ·refine ⟨R + 1, Nat.le_refl _, fun k hk => ⟨fun _ => hk, fun _ => ?_⟩⟩
   have down : ∀ d, d ≤ R → p (R - d) := by
    intro d
    induction d with
    | zero => intro _; exact hp
    | succ d ih =>
     intro hd
     have := h (R - (d + 1)) (by omega) (by rw [show R - (d + 1) + 1 = R - d by omega]; exact ih (by omega))
     exact this
   have := down (R - k) (by omega)
   rw [show R - (R - k) = k by omega] at this
   exact this
  ·refine ⟨L, by omega, fun k hk => ?_⟩
   by_cases e : k = R
   ·subst e; exact ⟨fun h => absurd h hp, fun h => by omega⟩
   ·exact h2 k (by omega)
section
variable {f : Fading} {b : Bds}
theorem go_thr {o : Int} {L H R : Nat} (h1 : ∀ k : Nat, k < R → (aboveV (some b) (13 + (k : Int)) o ≤ 0 ↔ k < L)) (h2 : ∀ k : Nat, k < R → (0 ≤ aboveV (some b) o (13 + (k : Int)) ↔ k < H)) (hL : L ≤ R) (hH : H ≤ R) :
  ∀ (n k : Nat) (s : Span), k + n = R → gradeGo (some b) o n (k : Int) s = (s.1 + ((L : Int) - (min L k : Nat)), s.2 + ((H : Int) - (min H k : Nat)))
 | 0, k, s, e => by
  have e1 : min L k = L := by omega
  have e2 : min H k = H := by omega
  rw [gradeGo, e1, e2]; simp
 | n + 1, k, s, e => by
  have ih := go_thr h1 h2 hL hH n (k + 1) (s.1 + cond (decide (aboveV (some b) (13 + (k : Int)) o ≤ 0)) 1 0, s.2 + cond (decide (0 ≤ aboveV (some b) o (13 + (k : Int)))) 1 0) (by omega)
  rw [gradeGo]
  rw [show ((k : Int) + 1) = ((k + 1 : Nat) : Int) from rfl, ih]
  have a1 := h1 k (by omega)
  have a2 := h2 k (by omega)
  simp only [Prod.mk.injEq]
  constructor
  ·by_cases c : k < L
   ·rw [decide_eq_true (a1.2 c), cond_true]; omega
   ·rw [decide_eq_false (fun hh => c (a1.1 hh)), cond_false]; omega
  ·by_cases c : k < H
   ·rw [decide_eq_true (a2.2 c), cond_true]; omega
   ·rw [decide_eq_false (fun hh => c (a2.1 hh)), cond_false]; omega
structure Told (f : Fading) (b : Bds) : Prop where
 mono : ∀ i j, i ≤ j → j ≤ f.1.length → gt b i j ≤ 0
 refs : ∀ k, k + 1 < f.2.1.length → gt b (13 + k) (13 + (k + 1)) ≤ -1
 chk : ∀ c ∈ f.2.2.2, cond c.2.2.2 (gt b (ptOf c.2.1 c.2.2.1) c.1.toNat ≤ 0) (gt b c.1.toNat (ptOf c.2.1 c.2.2.1) ≤ -1)
theorem told (O : OkC f) (hb : enterL noBounds (allL f) = some b) : Told f b := by
 have hI := (all_in O).2 b hb
 have hd : ∀ i, i < 27 → gt noBounds i i ≤ 0 := fun i hi => by rw [noBounds_in.dg i hi]; omega
 have hent := entered_all hd (fun r hr => among27 O (all_among O r hr)) hb
 have nm := O.nm
 have one : ∀ j, j < f.1.length → gt b j (j + 1) ≤ 0 := fun j hj => by
  have h1 := hent _ (List.mem_append.2 (.inl (List.mem_append.2 (.inl (mem_months.2 ⟨j, hj, .inr rfl⟩)))))
  simp only [show ((0 : Int) + (j : Int) + 1).toNat = j + 1 by omega, show ((0 : Int) + (j : Int)).toNat = j by omega] at h1
  have := O.months _ (getD_mem f.1 (0, 0) j hj)
  omega
 have kn : ∀ j, j ≤ f.1.length → known f j := fun j hj => .inl hj
 refine ⟨fun i j hij hj => ?_, fun k hk => ?_, fun c hc => ?_⟩
 ·obtain ⟨d, rfl⟩ : ∃ d, j = i + d := ⟨j - i, by omega⟩
  clear hij
  induction d with
  | zero =>
   rw [Nat.add_zero, hI.dg i (by omega)]; omega
  | succ d ih =>
   have h1 := ih (by omega)
   have h2 := one (i + d) (by omega)
   have h3 := hI.tri i (i + d) (i + d + 1) (kn _ (by omega)) (kn _ (by omega)) (kn _ (by omega))
   rw [show i + (d + 1) = i + d + 1 by omega]
   omega
 ·have h1 := hent _ (List.mem_append.2 (.inl (List.mem_append.2 (.inr (List.mem_append.2 (.inl (mem_refs (k := 0).2 ⟨k + 1, hk, .inr (.inr ⟨by omega, rfl⟩)⟩)))))))
  simp only [Nat.zero_add] at h1
  rw [show (13 + (((k + 1 : Nat) : Int) - 1)).toNat = 13 + k by omega, show (13 + ((k + 1 : Nat) : Int)).toNat = 13 + (k + 1) by omega] at h1
  exact h1
 ·have h1 := hent (ruleOf c) (List.mem_append.2 (.inr (List.mem_map_of_mem hc)))
  unfold ruleOf at h1
  unfold ptOf
  cases hf : c.2.2.2 with
  | true => rw [hf] at h1; exact h1
  | false => rw [hf] at h1; exact h1
theorem grade_thr (O : OkC f) (hb : enterL noBounds (allL f) = some b) {a : Nat} (ha : (a : Int) < f.2.2.1) : ∃ L H : Nat, gradeV f (a : Int) = (((L : Int), (H : Int)), 0) ∧ L ≤ H ∧ H ≤ f.2.1.length ∧
  (∀ k, k < f.2.1.length → (gt b (13 + k) (21 + a) ≤ 0 ↔ k < L)) ∧ (∀ k, k < f.2.1.length → (0 ≤ gt b (21 + a) (13 + k) ↔ k < H)) := by
 have hI := (all_in O).2 b hb
 have T := told O hb
 have ns := O.ns
 have ko : known f (21 + a) := .inr (.inr (by omega))
 have kr : ∀ k, k < f.2.1.length → known f (13 + k) := fun k hk => .inr (.inl (by omega))
 obtain ⟨L, l1, l2⟩ := prefix_thr f.2.1.length (fun k => gt b (13 + k) (21 + a) ≤ 0) fun k hk h => by
  have := T.refs k hk
  have := hI.tri (13 + k) (13 + (k + 1)) (21 + a) (kr k (by omega)) (kr _ hk) ko
  have h : gt b (13 + (k + 1)) (21 + a) ≤ 0 := h
  show gt b (13 + k) (21 + a) ≤ 0
  omega
 obtain ⟨H, h1, h2⟩ := prefix_thr f.2.1.length (fun k => 0 ≤ gt b (21 + a) (13 + k)) fun k hk h => by
  have := T.refs k hk
  have := hI.tri (21 + a) (13 + k) (13 + (k + 1)) ko (kr k (by omega)) (kr _ hk)
  have h : 0 ≤ gt b (21 + a) (13 + (k + 1)) := h
  show 0 ≤ gt b (21 + a) (13 + k)
  omega
 have hLH : L ≤ H := by
  rcases Nat.lt_or_ge H L with h | h
  ·have a1 := (l2 H (by omega)).2 h
   have a2 : ¬ 0 ≤ gt b (21 + a) (13 + H) := fun hh => by have := (h2 H (by omega)).1 hh; omega
   have := hI.tri (21 + a) (13 + H) (21 + a) ko (kr H (by omega)) ko
   have := hI.dg (21 + a) (hI.lt _ ko)
   omega
  ·exact h
 refine ⟨L, H, ?_, hLH, h1, l2, h2⟩
 have q1 : ∀ k : Nat, aboveV (some b) (13 + (k : Int)) (21 + (a : Int)) = gt b (13 + k) (21 + a) := fun k => by
  show gt b (13 + (k : Int)).toNat (21 + (a : Int)).toNat = _
  rw [show (13 + (k : Int)).toNat = 13 + k by omega, show (21 + (a : Int)).toNat = 21 + a by omega]
 have q2 : ∀ k : Nat, aboveV (some b) (21 + (a : Int)) (13 + (k : Int)) = gt b (21 + a) (13 + k) := fun k => by
  show gt b (21 + (a : Int)).toNat (13 + (k : Int)).toNat = _
  rw [show (13 + (k : Int)).toNat = 13 + k by omega, show (21 + (a : Int)).toNat = 21 + a by omega]
 have g := go_thr (b := b) (o := 21 + (a : Int)) (L := L) (H := H) (R := f.2.1.length) (fun k hk => by rw [q1]; exact l2 k hk) (fun k hk => by rw [q2]; exact h2 k hk) l1 h1 f.2.1.length 0 (0, 0) (by omega)
 have w : less1 f.2.2.1 = f.2.2.1 - 1 := wrap_in (by simp only [Z.in64]; omega)
 have hv : inB (a : Int) 0 (f.2.2.1 - 1) = true := inB_iff.2 ⟨by omega, by omega⟩
 rw [gradeV, w]
 simp only [hv, open_cards (cards_iff.2 O), hb]
 simp only [Nat.min_zero, Int.zero_add, show ((0 : Nat) : Int) = 0 from rfl, Int.sub_zero] at g
 show (gradeGo (some b) (21 + (a : Int)) f.2.1.length 0 (0, 0), (0 : Int)) = _
 rw [g]
end
theorem v8 (x : Fading × Int) (_ : k8.pre x) : V8 x := by
 obtain ⟨f, index⟩ := x
 refine ⟨trivial, fun _ => ⟨trivial, rfl⟩, fun h => ?_⟩
 have hs := great_size h
 refine ⟨hs, fun he => ?_, fun he => ?_⟩
 ·have he : (!((gradeV f index).2 == 0)) = true := he
  have hz : (gradeV f index).1 = (0, 0) := by
   rw [gradeV] at he ⊢
   cases hc : (openV f (inB index 0 (less1 f.2.2.1))).2 == 0 with
   | true => rw [hc] at he; cases he
   | false => rfl
  show ((((gradeV f index).1.1 == 0) && ((gradeV f index).1.2 == 0)) = true → _) ∧ ((((gradeV f index).1.1 == 0) && ((gradeV f index).1.2 == 0)) && true) = true
  rw [hz]
  exact ⟨fun _ => trivial, rfl⟩
 have he : ((gradeV f index).2 == 0) = true := not_iff.2.1 he
 have hop : ((openV f (inB index 0 (less1 f.2.2.1))).2 == 0) = true := by
  rw [gradeV] at he
  cases hc : (openV f (inB index 0 (less1 f.2.2.1))).2 == 0 with
  | true => rfl
  | false => rw [hc] at he; simp only [Bool.not_false, cond_true] at he; rw [he] at hc; cases hc
 obtain ⟨O, hv, b, ho, hb, hI⟩ := open_ok hop
 have hC : cardsB f = true := cards_iff.2 O
 have nm := O.nm
 have nr := O.nr
 have ns := O.ns
 have nc := O.nc
 have w : less1 f.2.2.1 = f.2.2.1 - 1 := wrap_in (by simp only [Z.in64]; omega)
 rw [w] at hv
 obtain ⟨v0, v1⟩ := inB_iff.1 hv
 obtain ⟨a, rfl⟩ : ∃ a : Nat, index = (a : Int) := ⟨index.toNat, by omega⟩
 obtain ⟨L, H, hg, hLH, hHR, tL, tH⟩ := grade_thr O hb (a := a) (by omega)
 have T := told O hb
 have eg : fade_Grade (f, (a : Int)) = (((L : Int), (H : Int)), 0) := hg
 have et : ref12u_TableOf (f, (f.2.2.2.length : Int)) = (tabOf f b, true) := by
  show tableV f (Int.toNat (f.2.2.2.length : Int)) = _
  rw [Int.toNat_natCast, tableV, cut_all, hb]
 have sa : ref12u_Sample (f, (a : Int)) = ((1 + f.1.length + f.2.1.length + a : Nat) : Int) := by show ((1 + (f.1.length : Int)) + (f.2.1.length : Int)) + (a : Int) = _; omega
 have hsN : 1 + f.1.length + f.2.1.length + a < sizeN f := by unfold sizeN; omega
 have hS := tab_sq (f := f) b
 have ko : known f (21 + a) := .inr (.inr (by omega))
 have kr : ∀ k, k < f.2.1.length → known f (13 + k) := fun k hk => .inr (.inl (by omega))
 have km : ∀ j, j ≤ f.1.length → known f j := fun j hj => .inl hj
 have ra : ∀ k : Nat, ref12u_Ref (f, (k : Int)) = ((1 + f.1.length + k : Nat) : Int) := fun k => by show (1 + (f.1.length : Int)) + (k : Int) = _; omega
 have rN : ∀ k, k < f.2.1.length → 1 + f.1.length + k < sizeN f := fun k hk => by unfold sizeN; omega
 have rp : ∀ k : Int, -1 ≤ k → k ≤ 100 → ref12u_Ref_p (f, k) := fun k h1 h2 => ⟨by show f.1.length ≤ 100; omega, by show -1000 ≤ k; omega, by show k ≤ 1000; omega⟩
 have z1 : ∀ k : Nat, k ≤ 100 → Z.in64 ((k : Int) + 1) := fun k hk => by simp only [Z.in64]; omega
 dsimp only
 rw [eg, et, sa]
 dsimp only
 refine ⟨hs, fun hbad => ?_, fun _ => ?_⟩
 ·exfalso
  have c1 : ref12u_Cards f = true := hC
  rw [c1, decide_eq_false (show ¬ ((a : Int) < 0) by omega), decide_eq_false (show ¬ (f.2.2.1 ≤ (a : Int)) by omega), decide_eq_false (show ¬ ((L : Int) < 0) by omega), decide_eq_false (show ¬ ((H : Int) < (L : Int)) by omega), decide_eq_false (show ¬ ((f.2.1.length : Int) < (H : Int)) by omega)] at hbad
  cases hbad
 refine ⟨fun s => ∃ j : Nat, s = (j : Int) ∧ j ≤ f.2.2.2.length, fun s => ((f.2.2.2.length : Int) - s).toNat, ⟨0, rfl, by omega⟩, ?_⟩
 rintro _ ⟨j, rfl, hj⟩
 refine ⟨fun h1 => ?_, fun h1 => ?_⟩
 ·have h1 := of_decide_eq_true h1
  have ms : ((f.2.2.2.length : Int) - ((j : Int) + 1)).toNat < ((f.2.2.2.length : Int) - (j : Int)).toNat := by omega
  have nx : ∃ j' : Nat, (j : Int) + 1 = (j' : Int) ∧ j' ≤ f.2.2.2.length := ⟨j + 1, rfl, by omega⟩
  rw [Int.toNat_natCast]
  obtain ⟨c, hc⟩ : ∃ c, c = f.2.2.2.getD j (0, 0, 0, false) := ⟨_, rfl⟩
  rw [← hc]
  have hcm : c ∈ f.2.2.2 := by rw [hc]; exact getD_mem _ _ j (by omega)
  refine ⟨by omega, fun _ => ⟨z1 j (by omega), rfl, nx, ms⟩, fun h2 => ?_⟩
  simp only [Bool.or_eq_false_iff, Bool.not_eq_false', beq_iff_eq] at h2
  obtain ⟨w1, w2⟩ := h2
  refine ⟨fun s => ∃ i : Nat, s = (i : Int) ∧ i ≤ f.2.2.2.length, fun s => ((f.2.2.2.length : Int) - s).toNat, ⟨0, rfl, by omega⟩, ?_⟩
  rintro _ ⟨i, rfl, hi⟩
  refine ⟨fun h3 => ?_, fun _ => ⟨z1 j (by omega), rfl, nx, ms⟩⟩
  have h3 := of_decide_eq_true h3
  rw [Int.toNat_natCast]
  obtain ⟨r, hr⟩ : ∃ r, r = f.2.2.2.getD i (0, 0, 0, false) := ⟨_, rfl⟩
  rw [← hr]
  have hrm : r ∈ f.2.2.2 := by rw [hr]; exact getD_mem _ _ i (by omega)
  refine ⟨by omega, fun hbad => ?_, fun _ => ⟨z1 i (by omega), rfl, rfl, ⟨i + 1, rfl, by omega⟩, by show ((f.2.2.2.length : Int) - ((i : Int) + 1)).toNat < ((f.2.2.2.length : Int) - (i : Int)).toNat; omega⟩⟩
  exfalso
  simp only [Bool.and_eq_true, Bool.or_eq_true, Bool.not_eq_true', beq_iff_eq, decide_eq_true_eq] at hbad
  obtain ⟨r1, hbad⟩ := hbad
  obtain ⟨⟨c0, c1⟩, _⟩ := O.checks c hcm
  obtain ⟨⟨r2, r3⟩, hw⟩ := O.checks r hrm
  obtain ⟨i0, i1⟩ : 0 ≤ r.2.2.1 ∧ r.2.2.1 < (f.2.1.length : Int) := by
   rcases hw with ⟨_, h1, h2⟩ | ⟨h0, _⟩
   ·exact ⟨h1, h2⟩
   ·omega
  have pc : ptOf c.2.1 c.2.2.1 = 21 + a := by
   unfold ptOf ofV
   rw [w1, w2]
   show (21 + (a : Int)).toNat = _
   omega
  have pr : ptOf r.2.1 r.2.2.1 = 13 + r.2.2.1.toNat := by
   unfold ptOf ofV
   rw [r1]
   show (13 + r.2.2.1).toNat = _
   omega
  have tc := T.chk c hcm
  have tr := T.chk r hrm
  rw [pc] at tc
  rw [pr] at tr
  have hik : r.2.2.1.toNat < f.2.1.length := by omega
  rcases hbad with ⟨⟨⟨b1, b2⟩, b3⟩, b4⟩ | ⟨⟨⟨b1, b2⟩, b3⟩, b4⟩
  ·rw [b1] at tc
   rw [b2] at tr
   have tc : gt b (21 + a) c.1.toNat ≤ 0 := tc
   have tr : gt b r.1.toNat (13 + r.2.2.1.toNat) ≤ -1 := tr
   have m1 := T.mono c.1.toNat r.1.toNat (by omega) (by omega)
   have t1 := hI.tri (21 + a) c.1.toNat r.1.toNat ko (km _ (by omega)) (km _ (by omega))
   have t2 := hI.tri (21 + a) r.1.toNat (13 + r.2.2.1.toNat) ko (km _ (by omega)) (kr _ hik)
   have := (tH r.2.2.1.toNat hik).2 (by omega)
   omega
  ·rw [b1] at tc
   rw [b2] at tr
   have tc : gt b c.1.toNat (21 + a) ≤ -1 := tc
   have tr : gt b (13 + r.2.2.1.toNat) r.1.toNat ≤ 0 := tr
   have m1 := T.mono r.1.toNat c.1.toNat (by omega) (by omega)
   have t1 := hI.tri (13 + r.2.2.1.toNat) r.1.toNat c.1.toNat (kr _ hik) (km _ (by omega)) (km _ (by omega))
   have t2 := hI.tri (13 + r.2.2.1.toNat) c.1.toNat (21 + a) (kr _ hik) (km _ (by omega)) ko
   have := (tL r.2.2.1.toNat hik).1 (by omega)
   omega
 refine ⟨tableP hC, fun hh => (by cases hh), fun _ => ⟨⟨⟨by show f.1.length ≤ 100; omega, by show f.2.1.length ≤ 100; omega⟩, by show -1000 ≤ (a : Int); omega, by show (a : Int) ≤ 1000; omega⟩, ?_⟩⟩
 clear h1
 refine ⟨fun s => ∃ v : Nat, s = (v : Int) ∧ L ≤ v ∧ v ≤ H + 1, fun s => ((H : Int) + 1 - s).toNat, ⟨L, rfl, by omega, by omega⟩, ?_⟩
 rintro _ ⟨v, rfl, hv1, hv2⟩
 refine ⟨fun h1 => ?_, fun h1 => ?_⟩
 ·have h1 := of_decide_eq_true h1
  have hvH : v ≤ H := by omega
  have e2 : ∀ k, k < f.2.1.length → ent (tabOf f b) ((1 + f.1.length + f.2.1.length + a : Nat) : Int) ((1 + f.1.length + k : Nat) : Int) = gt b (21 + a) (13 + k) := fun k hk => by
   rw [ent_tab hsN (rN k hk), pt_ref hk, pt_sample]
  have e3 : ∀ k, k < f.2.1.length → ent (tabOf f b) ((1 + f.1.length + k : Nat) : Int) ((1 + f.1.length + f.2.1.length + a : Nat) : Int) = gt b (13 + k) (21 + a) := fun k hk => by
   rw [ent_tab (rN k hk) hsN, pt_ref hk, pt_sample]
  have last : 0 < v → ref12u_Ref (f, (v : Int) - 1) = ((1 + f.1.length + (v - 1) : Nat) : Int) := fun h0 => by rw [show (v : Int) - 1 = ((v - 1 : Nat) : Int) by omega]; exact ra (v - 1)
  have F1 : (decide ((0 : Int) < (v : Int)) && decide (ent (tabOf f b) ((1 + f.1.length + f.2.1.length + a : Nat) : Int) (ref12u_Ref (f, (v : Int) - 1)) < 0)) = false := by
   by_cases h0 : 0 < v
   ·rw [last h0, e2 (v - 1) (by omega)]
    have := (tH (v - 1) (by omega)).2 (by omega)
    rw [decide_eq_false (show ¬ gt b (21 + a) (13 + (v - 1)) < 0 by omega), Bool.and_false]
   ·rw [decide_eq_false (show ¬ (0 : Int) < (v : Int) by omega), Bool.false_and]
  have F2 : (decide ((v : Int) < (f.2.1.length : Int)) && decide (ent (tabOf f b) (ref12u_Ref (f, (v : Int))) ((1 + f.1.length + f.2.1.length + a : Nat) : Int) < 1)) = false := by
   by_cases h0 : v < f.2.1.length
   ·rw [ra, e3 v h0]
    have : ¬ gt b (13 + v) (21 + a) ≤ 0 := fun hh => by have := (tL v h0).1 hh; omega
    rw [decide_eq_false (show ¬ gt b (13 + v) (21 + a) < 1 by omega), Bool.and_false]
   ·rw [decide_eq_false (show ¬ (v : Int) < (f.2.1.length : Int) by omega), Bool.false_and]
  have F3 : ((decide ((0 : Int) < (v : Int)) && decide ((v : Int) < (f.2.1.length : Int))) && decide (ent (tabOf f b) (ref12u_Ref (f, (v : Int))) (ref12u_Ref (f, (v : Int) - 1)) < 1)) = false := by
   by_cases h0 : 0 < v ∧ v < f.2.1.length
   ·rw [ra, last h0.1, ent_tab (rN v h0.2) (rN (v - 1) (by omega)), pt_ref h0.2, pt_ref (by omega)]
    have t1 := T.refs (v - 1) (by omega)
    rw [show v - 1 + 1 = v by omega] at t1
    have t2 := hI.tri (13 + v) (13 + (v - 1)) (13 + v) (kr v h0.2) (kr _ (by omega)) (kr v h0.2)
    have t3 := hI.dg (13 + v) (hI.lt _ (kr v h0.2))
    rw [decide_eq_false (show ¬ gt b (13 + v) (13 + (v - 1)) < 1 by omega), Bool.and_false]
   ·have : (decide ((0 : Int) < (v : Int)) && decide ((v : Int) < (f.2.1.length : Int))) = false := by
     by_cases h1 : 0 < v
     ·rw [decide_eq_false (show ¬ (v : Int) < (f.2.1.length : Int) by omega), Bool.and_false]
     ·rw [decide_eq_false (show ¬ (0 : Int) < (v : Int) by omega), Bool.false_and]
    rw [this, Bool.false_and]
  have nx : (∃ v' : Nat, (v : Int) + 1 = (v' : Int) ∧ L ≤ v' ∧ v' ≤ H + 1) ∧ ((H : Int) + 1 - ((v : Int) + 1)).toNat < ((H : Int) + 1 - (v : Int)).toNat := ⟨⟨v + 1, rfl, by omega, by omega⟩, by omega⟩
  rw [F1, F2, F3]
  refine ⟨by simp only [Z.in64]; omega, rp _ (by omega) (by omega), rp _ (by omega) (by omega), fun _ => ix hS hsN, fun h0 => ?_, fun hh => ?_, fun hh => ?_, fun hh => ?_, fun hh => ?_, fun hh => (by cases hh), fun _ => ⟨z1 v (by omega), rfl, nx⟩⟩
  ·have h0 := of_decide_eq_true h0
   rw [last (by omega), Int.toNat_natCast]
   exact ixr hS hsN (rN (v - 1) (by omega))
  ·have h0 := of_decide_eq_true hh.1
   rw [ra]
   exact ix hS (rN v (by omega))
  ·have h0 := of_decide_eq_true hh.1
   rw [ra, Int.toNat_natCast]
   exact ixr hS (rN v (by omega)) hsN
  ·obtain ⟨h0, h0'⟩ := (Bool.and_eq_true _ _).mp hh.1
   have h0' := of_decide_eq_true h0'
   rw [ra]
   exact ix hS (rN v (by omega))
  ·obtain ⟨h0, h0'⟩ := (Bool.and_eq_true _ _).mp hh.1
   have h0 := of_decide_eq_true h0
   have h0' := of_decide_eq_true h0'
   rw [ra, last (by omega), Int.toNat_natCast]
   exact ixr hS (rN v (by omega)) (rN (v - 1) (by omega))
 clear h1
 refine ⟨fun s => ∃ k : Nat, s = (k : Int) ∧ k ≤ f.2.1.length, fun s => ((f.2.1.length : Int) - s).toNat, ⟨0, rfl, by omega⟩, ?_⟩
 rintro _ ⟨k, rfl, hk⟩
 refine ⟨fun h1 => ?_, fun _ => ⟨trivial, rfl⟩⟩
 have h1 := of_decide_eq_true h1
 have hk' : k < f.2.1.length := by omega
 have e1 := ent_tab (b := b) (rN k hk') hsN
 have e2 := ent_tab (b := b) hsN (rN k hk')
 rw [pt_ref hk', pt_sample] at e1 e2
 have G1 : (!(decide (gt b (13 + k) (21 + a) ≤ 0) == decide ((k : Int) < (L : Int)))) = false := by
  have := tL k hk'
  by_cases h0 : k < L
  ·rw [decide_eq_true (this.2 h0), decide_eq_true (show (k : Int) < (L : Int) by omega)]; rfl
  ·rw [decide_eq_false (fun hh => h0 (this.1 hh)), decide_eq_false (show ¬ (k : Int) < (L : Int) by omega)]; rfl
 have G2 : (!(decide (0 ≤ gt b (21 + a) (13 + k)) == decide ((k : Int) < (H : Int)))) = false := by
  have := tH k hk'
  by_cases h0 : k < H
  ·rw [decide_eq_true (this.2 h0), decide_eq_true (show (k : Int) < (H : Int) by omega)]; rfl
  ·rw [decide_eq_false (fun hh => h0 (this.1 hh)), decide_eq_false (show ¬ (k : Int) < (H : Int) by omega)]; rfl
 rw [ra, e1, e2, G1, G2]
 simp only [Int.toNat_natCast]
 exact ⟨rp _ (by omega) (by omega), ix hS (rN k hk'), ixr hS (rN k hk') hsN, fun _ => ix hS hsN, fun _ => ixr hS hsN (rN k hk'), fun hh => (by cases hh), fun _ => ⟨z1 k (by omega), trivial, ⟨k + 1, rfl, by omega⟩, by show ((f.2.1.length : Int) - ((k : Int) + 1)).toNat < ((f.2.1.length : Int) - (k : Int)).toNat; omega⟩⟩
end Go.Fade
