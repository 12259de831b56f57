/-
  Chapter 12: FadeTrue: what was drawn is a truth; the condition.
-/
import Derived.Test.YtjnnbmgodbhofaaFadeS2
set_option linter.all false


set_option maxRecDepth 1000000
namespace Go.Fade
open Go Go.Sx

def ttOf (ls rs ss : List Int) (p : Nat) : Int := if p ≤ 12 then ls.getD p 0 else if p < 21 then rs.getD (p - 13) 0 else ss.getD (p - 21) 0
theorem tt_l {ls rs ss : List Int} {p : Nat} (h : p ≤ 12) : ttOf ls rs ss p = ls.getD p 0 := by unfold ttOf; rw [if_pos h]
theorem tt_r {ls rs ss : List Int} {k : Nat} (h : k < 8) : ttOf ls rs ss (13 + k) = rs.getD k 0 := by
  unfold ttOf; rw [if_neg (by omega), if_pos (by omega)]; congr 1; omega
theorem tt_s {ls rs ss : List Int} (k : Nat) : ttOf ls rs ss (21 + k) = ss.getD k 0 := by
  unfold ttOf; rw [if_neg (by omega), if_neg (by omega)]; congr 1; omega
/-- **What was drawn is a truth that fits the cards.** -/
theorem drawn_truth {months : List Span} {nr ns : Int} {bs : List Int} (hp : law12u_truth_p (months, nr, ns, bs)) (hnr : 0 ≤ nr ∧ nr ≤ 8) (hns : 0 ≤ ns ∧ ns ≤ 6) :
    (LOk months months.length (lightsV months bs) ∧ (refsV months nr bs).2.2.1.length = nr.toNat ∧ (refsV months nr bs).2.2.2.length = nr.toNat ∧ (samplesV months nr ns bs).2.length = ns.toNat ∧ (drawnV months nr ns bs).2.length ≤ 40) ∧
      Truth (truthV months nr ns bs).1 (ttOf (lightsV months bs) (refsV months nr bs).2.2.1 (samplesV months nr ns bs).2) := by
  obtain ⟨⟨hM, _⟩, hb⟩ : ((months.length ≤ 12 ∧ ∀ s ∈ months, (0 ≤ s.1 ∧ s.1 ≤ s.2) ∧ s.2 ≤ 1000000) ∧ (0 ≤ nr ∧ nr ≤ 8) ∧ 0 ≤ ns ∧ ns ≤ 6) ∧ BsOk bs := hp
  have hM' : MsOk months := hM
  have hM12 := hM.1
  have L := lights_in hM' hb months.length (Nat.le_refl _)
  have hA := lights_a hM' hb
  have R : ROk nr.toNat (refsV months nr bs) := refs_ok hb hA nr.toNat
  have S : SOk (refsV months nr bs).1 ns.toNat (samplesV months nr ns bs) := samples_ok hb hA (by rw [R.z]; omega) ns.toNat
  have C : COk (lightsV months bs) (refsV months nr bs).2.2.1 (samplesV months nr ns bs).2 months.length (samplesV months nr ns bs).1 (3 * bs.length) (drawnV months nr ns bs) := checks_ok hb (by rw [S.z, R.z]; omega) (3 * bs.length)
  refine ⟨⟨L, R.lr, R.ls, S.len, C.len⟩, ?_⟩
  have t0 : ttOf (lightsV months bs) (refsV months nr bs).2.2.1 (samplesV months nr ns bs).2 0 = 0 := by rw [tt_l (by omega)]; exact L.zero
  have hlr := R.lr
  have hls := R.ls
  have hlS := S.len
  refine ⟨fun j hj => ?_, fun k hk => ?_, fun k hk => ?_, fun s hs => ?_, fun c hc => ?_⟩
  · have hj : j < months.length := hj
    rw [tt_l (by omega), tt_l (by omega)]
    exact L.inc j hj
  · have hk : k < (refsV months nr bs).2.2.2.length := hk
    rw [t0, tt_r (by omega)]
    have := (R.inn k (by omega)).1
    show ((refsV months nr bs).2.2.2.getD k (0, 0)).1 ≤ _ ∧ _ ≤ ((refsV months nr bs).2.2.2.getD k (0, 0)).2
    omega
  · have hk : k + 1 < (refsV months nr bs).2.2.2.length := hk
    rw [tt_r (by omega), tt_r (by omega)]
    exact R.inc k (by omega)
  · have hs : s < ns.toNat := hs
    rw [t0, tt_s]
    have := S.inn s hs
    omega
  · have hc : c ∈ (drawnV months nr ns bs).2 := hc
    obtain ⟨h1, h2⟩ := C.inn c hc
    have e1 : ttOf (lightsV months bs) (refsV months nr bs).2.2.1 (samplesV months nr ns bs).2 c.1.toNat = (lightsV months bs).getD c.1.toNat 0 := tt_l (by omega)
    rw [e1]
    rcases h2 with ⟨h3, h4, h5⟩ | ⟨h3, h4, h5⟩
    · have e2 : ptOf c.2.1 c.2.2.1 = 13 + c.2.2.1.toNat := by
        unfold ptOf ofV; rw [h3]; show (13 + c.2.2.1).toNat = _; omega
      rw [e2, tt_r (by omega), h5]
      by_cases h : (refsV months nr bs).2.2.1.getD c.2.2.1.toNat 0 ≤ (lightsV months bs).getD c.1.toNat 0
      · rw [decide_eq_true h]; exact h
      · rw [decide_eq_false h]; show _ + 1 ≤ _; omega
    · have e2 : ptOf c.2.1 c.2.2.1 = 21 + c.2.2.1.toNat := by
        unfold ptOf ofV; rw [h3]; show (21 + c.2.2.1).toNat = _; omega
      rw [e2, tt_s, h5]
      by_cases h : (samplesV months nr ns bs).2.getD c.2.2.1.toNat 0 ≤ (lightsV months bs).getD c.1.toNat 0
      · rw [decide_eq_true h]; exact h
      · rw [decide_eq_false h]; show _ + 1 ≤ _; omega

theorem open_val {f : Fading} {b : Bds} (O : OkC f) (hb : enterL noBounds (allL f) = some b) : openV f true = (some b, 0) := by
  unfold openV
  rw [cards_iff.2 O, hb]; rfl
def cntL (rs : List Int) (v : Int) : Nat → Int
  | 0 => 0
  | k + 1 => cntL rs v k + cond (decide (rs.getD k 0 ≤ v)) 1 0
theorem cnt_bd (rs : List Int) (v : Int) : ∀ k, 0 ≤ cntL rs v k ∧ cntL rs v k ≤ (k : Int)
  | 0 => by show (0 : Int) ≤ 0 ∧ (0 : Int) ≤ 0; omega
  | k + 1 => by
    have := cnt_bd rs v k
    show 0 ≤ cntL rs v k + cond (decide (rs.getD k 0 ≤ v)) 1 0 ∧ cntL rs v k + cond (decide (rs.getD k 0 ≤ v)) 1 0 ≤ _
    cases decide (rs.getD k 0 ≤ v) <;> simp only [cond_true, cond_false] <;> omega
theorem grade_bd {b : Bds} {rs : List Int} {v : Int} {o : Nat} : ∀ (n k : Nat) (s : Span), (∀ j, k ≤ j → j < k + n → (gt b (13 + j) o ≤ 0 → rs.getD j 0 ≤ v) ∧ (rs.getD j 0 ≤ v → 0 ≤ gt b o (13 + j))) → s.1 ≤ cntL rs v k → cntL rs v k ≤ s.2 →
    (gradeGo (some b) (o : Int) n (k : Int) s).1 ≤ cntL rs v (k + n) ∧ cntL rs v (k + n) ≤ (gradeGo (some b) (o : Int) n (k : Int) s).2
  | 0, k, s, _, h1, h2 => ⟨h1, h2⟩
  | n + 1, k, s, h, h1, h2 => by
    have e : gradeGo (some b) (o : Int) (n + 1) (k : Int) s = gradeGo (some b) (o : Int) n ((k + 1 : Nat) : Int) (s.1 + cond (decide (gt b (13 + k) o ≤ 0)) 1 0, s.2 + cond (decide (0 ≤ gt b o (13 + k))) 1 0) := by
      have e1 : aboveV (some b) (13 + (k : Int)) (o : Int) = gt b (13 + k) o := by
        show gt b (13 + (k : Int)).toNat _ = _
        rw [show (13 + (k : Int)).toNat = 13 + k by omega]; rfl
      have e2 : aboveV (some b) (o : Int) (13 + (k : Int)) = gt b o (13 + k) := by
        show gt b _ (13 + (k : Int)).toNat = _
        rw [show (13 + (k : Int)).toNat = 13 + k by omega]; rfl
      rw [gradeGo, e1, e2]; rfl
    rw [e, show k + (n + 1) = k + 1 + n by omega]
    obtain ⟨g1, g2⟩ := h k (Nat.le_refl _) (by omega)
    refine grade_bd n (k + 1) _ (fun j hj1 hj2 => h j (by omega) (by omega)) ?_ ?_
    · show s.1 + cond (decide (gt b (13 + k) o ≤ 0)) 1 0 ≤ cntL rs v k + cond (decide (rs.getD k 0 ≤ v)) 1 0
      by_cases c1 : gt b (13 + k) o ≤ 0
      · rw [decide_eq_true c1, decide_eq_true (g1 c1)]; simp only [cond_true]; omega
      · rw [decide_eq_false c1]
        cases decide (rs.getD k 0 ≤ v) <;> simp only [cond_true, cond_false] <;> omega
    · show cntL rs v k + cond (decide (rs.getD k 0 ≤ v)) 1 0 ≤ s.2 + cond (decide (0 ≤ gt b o (13 + k))) 1 0
      by_cases c1 : rs.getD k 0 ≤ v
      · rw [decide_eq_true c1, decide_eq_true (g2 c1)]; simp only [cond_true]; omega
      · rw [decide_eq_false c1]
        cases decide (0 ≤ gt b o (13 + k)) <;> simp only [cond_true, cond_false] <;> omega
/-- After the months that Until tells the reference has faded. -/
theorem until_true {f : Fading} {b : Bds} (O : OkC f) (hb : enterL noBounds (allL f) = some b) {k : Nat} (hk : k < f.2.1.length) (more : Span) {last n : Int} (hl : n - last ≤ gt b (13 + k) f.1.length) (hn : 0 ≤ n ∧ n ≤ 16777216) (hl0 : 0 ≤ last ∧ last ≤ 12000000) :
    (((untilV f (k : Int) more).2 == 0) = true → Z.in64 ((untilV f (k : Int) more).1 * more.1) ∧ Z.in64 (last + (untilV f (k : Int) more).1 * more.1) ∧ n ≤ last + (untilV f (k : Int) more).1 * more.1) ∧ (((untilV f (k : Int) more).2 == 0) = false → (untilV f (k : Int) more).1 = 0) := by
  have hbd := (above_bd ((all_in O).2 b hb) (ref_known hk) (month_known O (m := (f.1.length : Int)) ⟨by omega, by omega⟩).choose_spec.2.1)
  have hch := (month_known O (m := (f.1.length : Int)) ⟨by omega, by omega⟩).choose_spec.1
  have hch : (month_known O (m := (f.1.length : Int)) ⟨by omega, by omega⟩).choose = f.1.length := by omega
  rw [hch] at hbd
  unfold untilV
  cases hv : (thingB f 0 (k : Int) && spanB more 0 1000000) with
  | false =>
    have e : (openV f false).2 = 2 := by unfold openV; rw [cards_iff.2 O]; rfl
    simp only [e]
    exact ⟨fun h => (by have h : false = true := h; cases h), fun _ => rfl⟩
  | true =>
    simp only [Bool.and_eq_true] at hv
    have hm := span_iff.1 hv.2
    rw [open_val O hb]
    simp only
    have ea : aboveV (some b) (13 + (k : Int)) (f.1.length : Int) = gt b (13 + k) f.1.length := by
      show gt b (13 + (k : Int)).toNat _ = _
      rw [show (13 + (k : Int)).toNat = 13 + k by omega]; rfl
    rw [ea]
    generalize gt b (13 + k) f.1.length = left at hl hbd
    by_cases h0 : left ≤ 0
    · have e2 : (cond (!((0 : Int) == 0)) ((0 : Int), (0 : Int)) (cond (decide (left ≤ 0)) (0, 0) (cond (more.1 == 0) (0, 4) ((left + more.1 - 1).tdiv more.1, 0)))) = (0, 0) := by rw [decide_eq_true h0]; rfl
      rw [e2]
      refine ⟨fun _ => ⟨in64u_of (by omega) (by omega), in64u_of (by omega) (by omega), by omega⟩, fun _ => rfl⟩
    · by_cases hm0 : more.1 = 0
      · have e2 : (cond (!((0 : Int) == 0)) ((0 : Int), (0 : Int)) (cond (decide (left ≤ 0)) (0, 0) (cond (more.1 == 0) (0, 4) ((left + more.1 - 1).tdiv more.1, 0)))) = (0, 4) := by rw [decide_eq_false h0, hm0]; rfl
        rw [e2]
        exact ⟨fun h => absurd h (by decide), fun _ => rfl⟩
      · have hb0 : (more.1 == 0) = false := by simpa using hm0
        have e2 : (cond (!((0 : Int) == 0)) ((0 : Int), (0 : Int)) (cond (decide (left ≤ 0)) (0, 0) (cond (more.1 == 0) (0, 4) ((left + more.1 - 1).tdiv more.1, 0)))) = ((left + more.1 - 1).tdiv more.1, 0) := by rw [decide_eq_false h0, hb0]; rfl
        rw [e2]
        have hpos : 0 < more.1 := by omega
        rw [Int.tdiv_eq_ediv_of_nonneg (by omega)]
        have q1 := Int.mul_ediv_self_le (x := left + more.1 - 1) (k := more.1) (by omega)
        have q2 := Int.lt_mul_ediv_self_add (x := left + more.1 - 1) (k := more.1) hpos
        rw [Int.mul_comm] at q1 q2
        generalize (left + more.1 - 1) / more.1 * more.1 = w at q1 q2 ⊢
        refine ⟨fun _ => ⟨in64u_of (by show _ ≤ w; omega) (by show w ≤ _; omega), in64u_of (by show _ ≤ last + w; omega) (by show last + w ≤ _; omega), by show n ≤ last + w; omega⟩, fun h => (by have h : true = false := h; cases h)⟩
end Go.Fade
