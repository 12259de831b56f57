/-
  Chapter 4: the law DieMore.
-/
import Derived.Test.YtihkgphflgojeaaDieR1
set_option linter.all false


set_option maxRecDepth 100000
namespace Go.Die
open Go Go.Sx

/-- A press of which each die of another one is surer. -/
structure Less (p q : Press) : Prop where
  len : p.1.length ≤ q.1.length
  change : q.2.2 = p.2.2
  ends : ∀ k, k < p.1.length → ∀ n, 0 ≤ n → thin (mountV p k) n ≤ thin (mountV q k) n ∧ thick (mountV q k) n ≤ thick (mountV p k) n
theorem Less.refl (p : Press) : Less p p := ⟨Nat.le_refl _, rfl, fun _ _ _ _ => ⟨Int.le_refl _, Int.le_refl _⟩⟩
def Wide : List Draw → List Draw → Prop
  | [], [] => True
  | x :: l, y :: r => (x.1 = y.1 ∧ 0 ≤ x.1) ∧ y.2.1 ≤ x.2.1 ∧ x.2.2 ≤ y.2.2 ∧ Wide l r
  | _, _ => False
theorem Wide.refl : ∀ l : List Draw, (∀ x ∈ l, 0 ≤ x.1) → Wide l l
  | [], _ => trivial
  | _ :: l, h => ⟨⟨rfl, h _ List.mem_cons_self⟩, Int.le_refl _, Int.le_refl _, Wide.refl l fun x hx => h x (List.mem_cons_of_mem _ hx)⟩
theorem getD_nn {u : List Int} (h : ∀ n ∈ u, 0 ≤ n) (k : Nat) : 0 ≤ u.getD k 0 := by
  by_cases hk : k < u.length
  · exact h _ (getD_mem u 0 k hk)
  · rw [show u.getD k 0 = 0 by simp [List.getD, Nat.le_of_not_lt hk]]; exact Int.le_refl _
theorem fits_mono {p q : Press} (h : Less p q) : ∀ {l r : List Draw} {u plan : List Int}, Wide l r → (∀ n ∈ u, 0 ≤ n) → fits p l u plan → fits q r u plan
  | [], [], _, [], _, _, _ => trivial
  | x :: l, y :: r, u, k :: plan, hw, hu, hf => by
    obtain ⟨⟨h1, h2⟩, h3⟩ := hf
    obtain ⟨⟨w0, w1⟩, w2, w3, w4⟩ := hw
    have hk : k.toNat < p.1.length := by omega
    have g := getD_nn hu k.toNat
    have hlen := h.len
    obtain ⟨e1, _⟩ := h.ends k.toNat hk _ g
    obtain ⟨_, e2⟩ := h.ends k.toNat hk (u.getD k.toNat 0 + x.1) (by omega)
    refine ⟨⟨by omega, ?_⟩, fits_mono h w4 (fun n hn => ?_) (by rw [useV, ← w0]; exact h3)⟩
    · have h2 : (decide (1000 * x.2.1 ≤ thin (mountV p k.toNat) (u.getD k.toNat 0)) && decide (thick (mountV p k.toNat) (u.getD k.toNat 0 + x.1) ≤ 1000 * x.2.2)) = true := h2
      rw [Bool.and_eq_true, decide_eq_true_eq, decide_eq_true_eq] at h2
      show (decide (1000 * y.2.1 ≤ thin (mountV q k.toNat) (u.getD k.toNat 0)) && decide (thick (mountV q k.toNat) (u.getD k.toNat 0 + y.1) ≤ 1000 * y.2.2)) = true
      rw [Bool.and_eq_true, decide_eq_true_eq, decide_eq_true_eq, ← w0]
      omega
    · have hn : n ∈ u.set k.toNat (u.getD k.toNat 0 + y.1) := hn
      rcases List.mem_or_eq_of_mem_set hn with hn | rfl
      · exact hu n hn
      · omega
theorem cost_congr {p q : Press} (h : q.2.2 = p.2.2) : ∀ (plan : List Int) (last : Int), costGo q last plan = costGo p last plan
  | [], _ => rfl
  | k :: plan, last => by simp only [costGo, changeV, h, cost_congr h plan k]
theorem cost_nonneg {p : Press} (H : OkP p) : ∀ {l : List Draw} {u plan : List Int} (last : Int), fits p l u plan → 0 ≤ costGo p last plan
  | [], _, [], _, _ => Int.le_refl _
  | x :: l, u, k :: plan, last, h => by
    have := cost_nonneg H k h.2
    have c := change_bd H last k
    have k0 := h.1.1
    simp only [costGo]; omega
/-- With less draws at the end. -/
theorem fits_take {p : Press} (H : OkP p) : ∀ (n : Nat) {l : List Draw} {u plan : List Int} (last : Int), fits p l u plan → fits p (l.take n) u (plan.take n) ∧ costGo p last (plan.take n) ≤ costGo p last plan
  | 0, l, u, plan, last, h => by
    rw [List.take_zero, List.take_zero]
    exact ⟨trivial, cost_nonneg H last h⟩
  | n + 1, [], u, [], _, _ => ⟨trivial, Int.le_refl _⟩
  | n + 1, x :: l, u, k :: plan, last, h => by
    obtain ⟨i1, i2⟩ := fits_take H n k h.2
    rw [List.take_succ_cons, List.take_succ_cons]
    refine ⟨⟨h.1, i1⟩, ?_⟩
    simp only [costGo]; omega
/-- Where a plan can be followed, the best one costs no more. -/
theorem best_le {p : Press} {l : List Draw} (hp : pressB p = true) (hl : drawsB l = true) {plan : List Int} (h : fits p l (List.replicate p.1.length 0) plan) : ∃ Q, planOut p l = (Q, costGo p (-1) Q, 0) ∧ costGo p (-1) Q ≤ costGo p (-1) plan := by
  rcases best_all hp hl with ⟨_, hno⟩ | ⟨Q, e, hf, hopt⟩
  · exact absurd h (hno plan)
  · exact ⟨Q, e, (hopt plan h).1⟩
theorem more_ok {p q : Press} {l r : List Draw} {P : List Int} (hq : pressB q = true) (hr : drawsB r = true) (h : Less p q) (hw : Wide l r) (hf : fits p l (List.replicate p.1.length 0) P) :
    (followV q r P).2.2 = 0 ∧ ∃ Q C, planOut q r = (Q, C, 0) ∧ C ≤ costGo p (-1) P := by
  have hlen := h.len
  have hf1 : fits p l (List.replicate q.1.length 0) P := fits_congr (fun k hk => by simp [List.getD, hk, Nat.lt_of_lt_of_le hk hlen]) (by simp) (by simp; exact hlen) hf
  have hf2 := fits_mono h hw (fun n hn => by rw [List.eq_of_mem_replicate hn]; exact Int.le_refl _) hf1
  obtain ⟨Q, e, hQ⟩ := best_le hq hr hf2
  rw [cost_congr h.change P] at hQ
  exact ⟨by rw [(follow_all hq hr P).1 hf2], Q, _, e, hQ⟩
theorem less_set {p : Press} (H : OkP p) {k : Nat} {c : Die} {sh : Span} (hk : k < p.1.length) (hc : c.1 = (p.1.getD k (0, 0, 0)).1 ∧ (p.1.getD k (0, 0, 0)).2.1 ≤ c.2.1 ∧ 0 ≤ c.2.2 ∧ c.2.2 ≤ (p.1.getD k (0, 0, 0)).2.2) (hs : p.2.1.1 ≤ sh.1 ∧ sh.2 ≤ p.2.1.2 ∧ sh.1 ≤ 1000) : Less p (p.1.set k c, sh, p.2.2) := by
  refine ⟨by rw [List.length_set]; exact Nat.le_refl _, rfl, fun j hj n hn => ?_⟩
  have hS := H.shrink
  have key : ∀ d c : Die, ((1 ≤ d.1 ∧ d.1 ≤ 20000) ∧ 0 ≤ d.2.1 ∧ d.2.1 ≤ d.2.2 ∧ d.2.2 ≤ 200) → (c.1 = d.1 ∧ d.2.1 ≤ c.2.1 ∧ 0 ≤ c.2.2 ∧ c.2.2 ≤ d.2.2) → thin (d, p.2.1) n ≤ thin (c, sh) n ∧ thick (c, sh) n ≤ thick (d, p.2.1) n := by
    intro d c hd hc
    have l1 : d.2.1 * n ≤ c.2.1 * n := Int.mul_le_mul_of_nonneg_right hc.2.1 hn
    have l2 : c.2.2 * n ≤ d.2.2 * n := Int.mul_le_mul_of_nonneg_right hc.2.2.2 hn
    have l3 : 0 ≤ d.2.1 * n := Int.mul_nonneg hd.2.1 hn
    have l4 : 0 ≤ c.2.2 * n := Int.mul_nonneg hc.2.2.1 hn
    have e := hc.1
    exact ⟨Int.mul_le_mul (by show d.1 + d.2.1 * n ≤ c.1 + c.2.1 * n; omega) (by show 1000 - p.2.1.2 ≤ 1000 - sh.2; omega) (by show 0 ≤ 1000 - p.2.1.2; omega) (by show 0 ≤ c.1 + c.2.1 * n; omega),
      Int.mul_le_mul (by show c.1 + c.2.2 * n ≤ d.1 + d.2.2 * n; omega) (by show 1000 - sh.1 ≤ 1000 - p.2.1.1; omega) (by show 0 ≤ 1000 - sh.1; omega) (by show 0 ≤ d.1 + d.2.2 * n; omega)⟩
  have hd := H.die _ (getD_mem p.1 (0, 0, 0) j hj)
  by_cases e : k = j
  · subst e
    rw [mount_set hk]
    exact key _ _ hd hc
  · have e1 : mountV (p.1.set k c, sh, p.2.2) j = (p.1.getD j (0, 0, 0), sh) := by simp [mountV, List.getD, List.getElem?_set, e]
    rw [e1]
    exact key _ _ hd ⟨rfl, Int.le_refl _, by omega, Int.le_refl _⟩
theorem less_app (p : Press) (c : Die) : Less p (p.1 ++ [c], p.2) := by
  refine ⟨by simp, rfl, fun k hk n _ => ?_⟩
  have e : mountV (p.1 ++ [c], p.2) k = mountV p k := by simp [mountV, List.getD, List.getElem?_append, hk]
  rw [e]
  exact ⟨Int.le_refl _, Int.le_refl _⟩
theorem set_at {α : Type} (a c : α) (B : List α) : ∀ A : List α, (A ++ a :: B).set A.length c = A ++ c :: B
  | [] => rfl
  | x :: A => by
    show x :: (A ++ a :: B).set A.length c = x :: (A ++ c :: B)
    rw [set_at a c B A]
theorem get_at {α : Type} (a d : α) (B : List α) : ∀ A : List α, (A ++ a :: B).getD A.length d = a
  | [] => rfl
  | x :: A => by
    show (A ++ a :: B).getD A.length d = a
    exact get_at a d B A
def wd (by_ : Int) (y : Draw) : Draw := (y.1, max 0 (y.2.1 - by_), min 20000 (y.2.2 + by_))
theorem wd_wide {by_ : Int} (h : 0 ≤ by_) : ∀ l : List Draw, (∀ x ∈ l, (1 ≤ x.1 ∧ x.1 ≤ 1000) ∧ 0 ≤ x.2.1 ∧ x.2.1 ≤ x.2.2 ∧ x.2.2 ≤ 20000) → Wide l (l.map (wd by_))
  | [], _ => trivial
  | x :: l, hl => by
    have := hl x List.mem_cons_self
    refine ⟨⟨rfl, by omega⟩, ?_, ?_, wd_wide h l fun y hy => hl y (List.mem_cons_of_mem _ hy)⟩
    · show max 0 (x.2.1 - by_) ≤ x.2.1; omega
    · show x.2.2 ≤ min 20000 (x.2.2 + by_); omega
theorem wd_ok {by_ : Int} (h : 0 ≤ by_) {l : List Draw} (L : OkD l) : drawsB (l.map (wd by_)) = true := by
  refine draws_iff.2 ⟨by rw [List.length_map]; exact L.len, fun x hx => ?_⟩
  obtain ⟨y, hy, rfl⟩ := List.mem_map.1 hx
  have := L.draw y hy
  refine ⟨this.1, ?_, ?_, ?_⟩
  · show 0 ≤ max 0 (y.2.1 - by_); omega
  · show max 0 (y.2.1 - by_) ≤ min 20000 (y.2.2 + by_); omega
  · show min 20000 (y.2.2 + by_) ≤ 20000; omega
theorem v8 (x : Press × (List Draw) × Die × Int × Int) (hx : k8.pre x) : V8 x := by
  obtain ⟨p, l, more, which, by_⟩ := x
  obtain ⟨⟨hw0, hw1⟩, hy0, hy1⟩ : (0 ≤ which ∧ which ≤ 255) ∧ 0 ≤ by_ ∧ by_ ≤ 255 := hx
  have eA : law04u_awake () = true := rfl
  have eL : law04u_DieMore (p, l, more, which, by_) = true := rfl
  have eB : ∀ p, ref04u_Press p = pressB p := fun _ => rfl
  have eO : ref04u_Draws l = drawsB l := rfl
  have eP : ∀ p l, die_Plan (p, l) = planOut p l := fun _ _ => rfl
  have eF : ∀ p l q, die_Follow (p, l, q) = followV p l q := fun _ _ _ => rfl
  have eR : (List.replicate 1 ((0 : Int), (0 : Int), (0 : Int))).set 0 more = [more] := rfl
  have eG : law04u_large (p, l, 7) = (((decide ((7 : Int) < (l.length : Int)) && decide ((l.length : Int) ≤ 8)) || decide (12 < (l.length : Int))) || decide (8 < (p.1.length : Int))) := rfl
  rw [V8]
  simp only [List.replicate_zero, List.nil_append]
  rw [eA, eL, eO, eG, eR]
  simp only [eB, eP, eF]
  refine ⟨trivial, fun h => ?_, fun h => ?_, fun _ => ⟨trivial, trivial⟩, fun h => ⟨trivial, trivial, ?_⟩⟩
  · simp only [Bool.or_eq_false_iff, decide_eq_false_iff_not] at h
    show p.1.length ≤ big
    simp only [big]; omega
  · simp only [Bool.or_eq_false_iff, decide_eq_false_iff_not] at h
    show l.length ≤ big
    simp only [big]; omega
  simp only [Bool.or_eq_false_iff, decide_eq_false_iff_not, Bool.not_eq_false'] at h
  obtain ⟨⟨_, hp⟩, hl⟩ := h
  have H := press_iff.1 hp
  have L := draws_iff.1 hl
  have hl8 := L.len
  have hlen := H.len
  have hS := H.shrink
  have m1 := tmod_bd (a := which) (n := (p.1.length : Int)) hw0 (by omega)
  have m3 : 0 ≤ Int.tmod by_ 3 ∧ Int.tmod by_ 3 < 3 := tmod_bd hy0 (by omega)
  have m5 : 0 ≤ Int.tmod by_ 5 ∧ Int.tmod by_ 5 < 5 := tmod_bd hy0 (by omega)
  obtain ⟨k, hk⟩ : ∃ k : Nat, k = Int.toNat (Int.tmod which (p.1.length : Int)) := ⟨_, rfl⟩
  have hkl : k < p.1.length := by omega
  obtain ⟨d, hd⟩ : ∃ d, d = p.1.getD k (0, 0, 0) := ⟨_, rfl⟩
  have hdo := H.die _ (getD_mem p.1 (0, 0, 0) k hkl)
  rw [← hk, ← hd]
  rw [← hd] at hdo
  have hless := press_set H (k := k) (c := (d.1, min d.2.2 (d.2.1 + Int.tmod by_ 3), d.2.2)) (sh := (p.2.1.1, max p.2.1.1 (p.2.1.2 - Int.tmod by_ 5)))
    ⟨hdo.1, by show 0 ≤ min d.2.2 (d.2.1 + Int.tmod by_ 3); omega, by show min d.2.2 (d.2.1 + Int.tmod by_ 3) ≤ d.2.2; omega, hdo.2.2.2⟩ ⟨hS.1, by show p.2.1.1 ≤ max p.2.1.1 _; omega, by show max p.2.1.1 (p.2.1.2 - Int.tmod by_ 5) ≤ 300; omega⟩
  have Lless := less_set H (k := k) (c := (d.1, min d.2.2 (d.2.1 + Int.tmod by_ 3), d.2.2)) (sh := (p.2.1.1, max p.2.1.1 (p.2.1.2 - Int.tmod by_ 5))) hkl
    (by rw [← hd]; exact ⟨rfl, by show d.2.1 ≤ min d.2.2 (d.2.1 + Int.tmod by_ 3); omega, by show 0 ≤ d.2.2; omega, Int.le_refl _⟩) ⟨Int.le_refl _, by show max p.2.1.1 (p.2.1.2 - Int.tmod by_ 5) ≤ p.2.1.2; omega, by show p.2.1.1 ≤ 1000; omega⟩
  have hWr : Wide l l := Wide.refl l fun x hx => by have := L.draw x hx; omega
  refine ⟨roomy_of (by omega) (by omega) (by omega), by omega, ⟨m1.1, m1.2⟩, by omega, by simp only [Z.in64]; omega, by omega, by simp only [Z.in64]; omega, roomy_of (by omega) (by omega) (by omega), roomy_of (by omega) (by omega) (by rw [List.length_append, List.length_singleton]; omega), roomy_of (by omega) (by omega) (by omega), ?_⟩
  refine ⟨fun s => ∃ i : Nat, s.1 = (i : Int) ∧ i ≤ l.length ∧ s.2 = (l.take i).map (wd by_) ++ l.drop i, fun s => ((l.length : Int) - s.1).toNat, ⟨0, rfl, Nat.zero_le _, rfl⟩, ?_⟩
  rintro ⟨i0, w⟩ ⟨i, g1, g2, g3⟩
  simp only at g1 g3
  subst g1
  have hwl : w.length = l.length := by rw [g3, List.length_append, List.length_map, List.length_take, List.length_drop]; omega
  have htl : ((l.take i).map (wd by_)).length = i := by rw [List.length_map, List.length_take]; omega
  refine ⟨fun hi => ?_, fun hi => ?_⟩
  · have hi : (i : Int) < (w.length : Int) := of_decide_eq_true hi
    have hil : i < l.length := by omega
    obtain ⟨y, hy⟩ : ∃ y, y = l.getD i (0, 0, 0) := ⟨_, rfl⟩
    have hyl := L.draw _ (getD_mem l (0, 0, 0) i hil)
    rw [← hy] at hyl
    rw [drop_getD l (0, 0, 0) i hil, ← hy] at g3
    have ey : w.getD (Int.toNat (i : Int)) (0, 0, 0) = y := by
      show w.getD i (0, 0, 0) = y
      have := get_at y (0, 0, 0) (l.drop (i + 1)) ((l.take i).map (wd by_))
      rw [htl, ← g3] at this
      exact this
    have es : w.set (Int.toNat (i : Int)) (wd by_ y) = (l.take (i + 1)).map (wd by_) ++ l.drop (i + 1) := by
      show w.set i (wd by_ y) = _
      have := set_at y (wd by_ y) (l.drop (i + 1)) ((l.take i).map (wd by_))
      rw [htl, ← g3] at this
      rw [this, List.take_succ_eq_append_getElem hil, List.map_append, List.append_assoc, hy]
      simp [List.getD, hil]
    dsimp only
    rw [ey]
    have eg : (w.set (Int.toNat (i : Int)) (y.1, max 0 (y.2.1 - by_), y.2.2)).getD (Int.toNat (i : Int)) (0, 0, 0) = (y.1, max 0 (y.2.1 - by_), y.2.2) := by
      simp [List.getD, show i < w.length by omega]
    rw [eg, List.length_set, List.set_set]
    have hix : (0 : Int) ≤ (i : Int) ∧ (i : Int) < (w.length : Int) := ⟨by omega, hi⟩
    refine ⟨hix, by simp only [Z.in64]; omega, hix, hix, by simp only [Z.in64]; omega, hix, by simp only [Z.in64]; omega, trivial, trivial, trivial, trivial, trivial, trivial, trivial, ⟨i + 1, by show (i : Int) + 1 = ((i + 1 : Nat) : Int); omega, hil, es⟩, ?_⟩
    show ((l.length : Int) - ((i : Int) + 1)).toNat < ((l.length : Int) - (i : Int)).toNat; omega
  · have hi : ¬ (i : Int) < (w.length : Int) := of_decide_eq_false hi
    have hw : w = l.map (wd by_) := by
      rw [g3, List.take_of_length_le (by omega), List.drop_eq_nil_of_le (by omega), List.append_nil]
    clear g3
    subst hw
    rcases best_all hp hl with ⟨e, _⟩ | ⟨P, e, hf, _⟩
    · rw [e]
      exact ⟨fun _ => ⟨fun _ => trivial, rfl⟩, fun h => (by cases h)⟩
    rw [e]
    dsimp only
    obtain ⟨C, hC⟩ : ∃ C, C = costGo p (-1) P := ⟨_, rfl⟩
    rw [← hC]
    obtain ⟨f1, Q1, C1, e1, q1⟩ := more_ok hless hl Lless hWr hf
    obtain ⟨f2, Q2, C2, e2, q2⟩ := more_ok hp (wd_ok hy0 L) (Less.refl p) (wd_wide hy0 l L.draw) hf
    rw [← hC] at q1 q2
    rw [f1, f2, e1, e2]
    have K : (pressB (p.1 ++ [more], p.2) && ((!((planOut (p.1 ++ [more], p.2) l).2.2 == 0)) || decide (C < (planOut (p.1 ++ [more], p.2) l).2.1))) = false := by
      cases hr : pressB (p.1 ++ [more], p.2) with
      | false => rfl
      | true =>
        obtain ⟨_, Q3, C3, e3, q3⟩ := more_ok hr hl (less_app p more) hWr hf
        rw [← hC] at q3
        rw [e3, decide_eq_false (show ¬ C < C3 by omega)]; rfl
    dsimp only
    rw [K, decide_eq_false (show ¬ C < C1 by omega), decide_eq_false (show ¬ C < C2 by omega)]
    refine ⟨fun h => (by cases h), fun _ => ⟨trivial, trivial, trivial, trivial, trivial, fun _ => ?_, fun h => (by cases h), fun _ => ⟨fun h => ⟨fun _ => trivial, ?_⟩, fun h => ?_⟩⟩⟩
    · show (p.1 ++ [more]).length ≤ big
      rw [List.length_append, List.length_singleton]
      simp only [big]; omega
    · have h : l = [] := List.length_eq_zero_iff.1 (by simpa using h)
      have hz : C = 0 := by
        rw [hC]
        rw [h] at hf
        cases P with
        | nil => rfl
        | cons _ _ => exact hf.elim
      rw [hz]; rfl
    · have h : l.length ≠ 0 := by simpa using h
      have hlt : drawsB (l.take (Int.toNat ((l.length : Int) - 1))) = true :=
        draws_iff.2 ⟨by rw [List.length_take]; omega, fun x hx => L.draw x (List.mem_of_mem_take hx)⟩
      obtain ⟨t1, t2⟩ := fits_take H (Int.toNat ((l.length : Int) - 1)) (-1) hf
      obtain ⟨Q4, e4, q4⟩ := best_le hp hlt t1
      rw [e4]
      refine ⟨by simp only [Z.in64]; omega, ⟨by omega, by omega⟩, trivial, fun _ => trivial, ?_⟩
      dsimp only
      rw [decide_eq_true (show costGo p (-1) Q4 ≤ C by omega)]; rfl
end Go.Die
