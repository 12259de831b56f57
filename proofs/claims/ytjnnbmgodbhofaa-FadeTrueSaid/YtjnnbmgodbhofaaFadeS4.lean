/-
  Chapter 12: FadeTrue: the condition.
-/
import Derived.Test.YtjnnbmgodbhofaaFadeS3
set_option linter.all false


set_option maxRecDepth 1000000
namespace Go.Fade
open Go Go.Sx

theorem neq0 {a : Int} (h : a = 0) : (!(a == 0)) = false := by rw [h]; rfl
theorem v6 (x : (List Span) × Int × Int × (List Int) × Int × Int) (hp : k6.pre x) : V6 x := by
  obtain ⟨months, refs, samples, bs, more⟩ := x
  obtain ⟨⟨⟨hr0, hr1⟩, hs0, hs1⟩, hbl, hbv⟩ : ((0 ≤ refs ∧ refs ≤ 255) ∧ (0 ≤ samples ∧ samples ≤ 255)) ∧ bs.length ≤ 140737488355328 ∧ ∀ b ∈ bs, 0 ≤ b ∧ b ≤ 4294967295 := hp
  have c12 : (decide ((12 : Int) < (months.length : Int)) || ((bs.length : Int) == 0)) = false → months.length ≤ 12 ∧ bs ≠ [] := by
    intro h
    simp only [Bool.or_eq_false_iff, decide_eq_false_iff_not] at h
    refine ⟨by omega, fun e => ?_⟩
    rw [e] at h; exact absurd h.2 (by decide)
  refine ⟨fun h => ?_, fun _ => ⟨trivial, rfl⟩, fun h => ?_⟩
  · obtain ⟨h1, _⟩ := c12 h
    exact ⟨by show months.length ≤ big; simp only [big]; omega, by show 0 ≤ big; omega, by show 0 ≤ big; omega⟩
  have h : ((decide ((12 : Int) < (months.length : Int)) || ((bs.length : Int) == 0)) || !(cardsB (months, [], 0, []))) = false := h
  simp only [Bool.or_eq_false_iff, Bool.not_eq_false'] at h
  obtain ⟨h12, hc⟩ := h
  obtain ⟨hm12, hne⟩ := c12 (by rw [Bool.or_eq_false_iff]; exact h12)
  have hM : MsOk months := ⟨hm12, (cards_iff.1 hc).months⟩
  have hb : BsOk bs := ⟨⟨hne, hbl⟩, hbv⟩
  have hnr := tmod_bd hr0 (show (0 : Int) < 9 by omega)
  have hns := tmod_bd hs0 (show (0 : Int) < 7 by omega)
  have hnr : 0 ≤ Int.tmod refs 9 ∧ Int.tmod refs 9 ≤ 8 := by omega
  have hns : 0 ≤ Int.tmod samples 7 ∧ Int.tmod samples 7 ≤ 6 := by omega
  have htp : law12u_truth_p (months, Int.tmod refs 9, Int.tmod samples 7, bs) := ⟨⟨hM, hnr, hns⟩, hb⟩
  obtain ⟨⟨L, lr, lrs, lss, lc⟩, T⟩ := drawn_truth htp hnr hns
  refine ⟨by show (9 : Int) ≠ 0; omega, by show (7 : Int) ≠ 0; omega, htp, ?_, fun _ => ⟨trivial, rfl⟩, fun hF => ?_⟩
  · refine ⟨by show months.length ≤ big; simp only [big]; omega, ?_, ?_⟩
    · show (refsV months (Int.tmod refs 9) bs).2.2.2.length ≤ big; simp only [big]; omega
    · show (drawnV months (Int.tmod refs 9) (Int.tmod samples 7) bs).2.length ≤ big; simp only [big]; omega
  have hF : (!(cardsB (truthV months (Int.tmod refs 9) (Int.tmod samples 7) bs).1)) = false := hF
  have O := cards_iff.1 (not_iff.2.1 hF)
  obtain ⟨F, hFe⟩ : ∃ F, F = (truthV months (Int.tmod refs 9) (Int.tmod samples 7) bs).1 := ⟨_, rfl⟩
  obtain ⟨ls, hls⟩ : ∃ ls, ls = lightsV months bs := ⟨_, rfl⟩
  obtain ⟨rs, hrs⟩ : ∃ rs, rs = (refsV months (Int.tmod refs 9) bs).2.2.1 := ⟨_, rfl⟩
  obtain ⟨ss, hss⟩ : ∃ ss, ss = (samplesV months (Int.tmod refs 9) (Int.tmod samples 7) bs).2 := ⟨_, rfl⟩
  have hF1 : F.1 = months := by rw [hFe]; rfl
  have hF2 : F.2.1.length = rs.length := by rw [hFe, hrs, lr, ← lrs]; rfl
  have hF3 : F.2.2.1 = Int.tmod samples 7 := by rw [hFe]; rfl
  rw [← hFe, ← hls, ← hrs, ← hss] at T
  rw [← hls] at L
  rw [← hrs] at lr
  rw [← hss] at lss
  rw [← hFe] at O
  have sF : sizeP F := ⟨by have := O.nm; simp only [big]; omega, by have := O.nr; simp only [big]; omega, by have := O.nc; simp only [big]; omega⟩
  obtain ⟨b, hbb, hab⟩ := truth_enters O T
  have hI := (all_in O).2 b hbb
  have t0 : ttOf ls rs ss 0 = 0 := by rw [tt_l (by omega)]; exact L.zero
  have hmn : months.length ≤ 12 := hm12
  have hrl : rs.length ≤ 8 := by omega
  have kl : ∀ m, m ≤ months.length → known F m := fun m hm => by unfold known withAll; rw [hF1]; omega
  have kr : ∀ k, k < rs.length → known F (13 + k) := fun k hk => by unfold known withAll; omega
  have ks : ∀ s, s < ss.length → known F (21 + s) := fun s hs => by unfold known withAll; rw [hF3]; omega
  have lV : ∀ m : Nat, m ≤ months.length → fade_Light (F, (m : Int)) = ((-(gt b 0 m), gt b m 0), 0) := by
    intro m hm
    show lightV F (m : Int) = _
    have hv : inB (m : Int) 0 (F.1.length : Int) = true := inB_iff.2 (by rw [hF1]; omega)
    rw [lightV, hv, open_val O hbb]; rfl
  have fV : ∀ (what : Int) (i p : Nat), ((what = 0 ∧ i < rs.length) ∨ (what = 1 ∧ i < ss.length)) → ofV what (i : Int) = (p : Int) → fade_Fast (F, what, (i : Int)) = ((-(gt b 0 p), gt b p 0), 0) := by
    intro what i p hw he
    show fastV F what (i : Int) = _
    have hv : thingB F what (i : Int) = true := (thing_iff O.ns).2 (by rw [hF3, hF2]; omega)
    rw [fastV, hv, open_val O hbb, he]; rfl
  have m1 : ∀ k n : Nat, k < n → ((n : Int) - ((k : Int) + 1)).toNat < ((n : Int) - (k : Int)).toNat := fun k n h => by omega
  have i64 : ∀ k : Nat, k ≤ 100 → Z.in64 ((k : Int) + 1) := fun k h => in64u_of (by omega) (by omega)
  have hll := L.len
  have hlast := L.bd months.length (Nat.le_refl _)
  have tn : ∀ i, known F i → 0 ≤ ttOf ls rs ss i ∧ ttOf ls rs ss i ≤ 16777216 := fun i hi => by
    have := truth_bd O T hi; omega
  have hd : truthV months (Int.tmod refs 9) (Int.tmod samples 7) bs = (F, ls, rs, ss) := by rw [hFe, hls, hrs, hss]; rfl
  have hd' : law12u_truth (months, Int.tmod refs 9, Int.tmod samples 7, bs) = (F, ls, rs, ss) := hd
  unfold Z.LoopP
  dsimp only
  rw [hd']
  refine ⟨fun s => ∃ k : Nat, k ≤ ls.length ∧ s = (k : Int), fun s => ((ls.length : Int) - s).toNat, ⟨0, Nat.zero_le _, rfl⟩, ?_⟩
  rintro _ ⟨m, hm, rfl⟩
  refine ⟨fun h => ?_, fun _ => ?_⟩
  · have h : (m : Int) < (ls.length : Int) := of_decide_eq_true h
    have hm' : m ≤ months.length := by omega
    have d1 := hab m 0 (kl m hm') (kl 0 (by omega))
    have d2 := hab 0 m (kl 0 (by omega)) (kl m hm')
    rw [t0, tt_l (by omega)] at d1 d2
    refine ⟨⟨by omega, h⟩, sF, fun hbad => ?_, fun _ => ⟨i64 m (by omega), rfl, rfl, ⟨m + 1, by omega, rfl⟩, m1 m _ (by omega)⟩⟩
    dsimp only at hbad
    rw [lV m hm'] at hbad
    have e : ls.getD (Int.toNat (m : Int)) 0 = ls.getD m 0 := rfl
    rw [e] at hbad
    simp only [Bool.or_eq_true, decide_eq_true_eq] at hbad
    rcases hbad with (hbad | hbad) | hbad
    · cases hbad
    · omega
    · omega
  refine ⟨⟨by omega, by show (months.length : Int) < (ls.length : Int); omega⟩, ?_⟩
  refine ⟨fun s => ∃ k : Nat, k ≤ rs.length ∧ s = (k : Int), fun s => ((rs.length : Int) - s).toNat, ⟨0, Nat.zero_le _, rfl⟩, ?_⟩
  rintro _ ⟨k, hk, rfl⟩
  refine ⟨fun h => ?_, fun _ => ?_⟩
  · have h : (k : Int) < (rs.length : Int) := of_decide_eq_true h
    have hk' : k < rs.length := by omega
    have d1 := hab (13 + k) 0 (kr k hk') (kl 0 (by omega))
    have d2 := hab 0 (13 + k) (kl 0 (by omega)) (kr k hk')
    have d3 := hab (13 + k) months.length (kr k hk') (kl _ (Nat.le_refl _))
    have hbd := tn _ (kr k hk')
    rw [t0, tt_r (by omega)] at d1 d2
    rw [tt_r (by omega), tt_l (by omega)] at d3
    rw [tt_r (by omega)] at hbd
    have fv := fV 0 k (13 + k) (.inl ⟨rfl, hk'⟩) (by show 13 + (k : Int) = _; omega)
    have U := until_true O hbb (k := k) (by omega) more (last := ls.getD months.length 0) (n := rs.getD k 0) (by rw [hF1]; exact d3) hbd (by omega)
    obtain ⟨U1, U2⟩ := U
    refine ⟨⟨by omega, h⟩, sF, fun hbad => ?_, fun _ => ⟨sF, fun hz => (U1 hz).1, fun hz => (U1 hz).2.1, fun hbad => ?_, fun _ => ⟨i64 k (by omega), rfl, rfl, ⟨k + 1, by omega, rfl⟩, m1 k _ (by omega)⟩⟩⟩
    · dsimp only at hbad
      rw [fv] at hbad
      have e : rs.getD (Int.toNat (k : Int)) 0 = rs.getD k 0 := rfl
      rw [e] at hbad
      simp only [Bool.or_eq_true, decide_eq_true_eq] at hbad
      rcases hbad with (hbad | hbad) | hbad
      · cases hbad
      · omega
      · omega
    · have hbad : (((untilV F (k : Int) more).2 == 0 && decide (ls.getD months.length 0 + (untilV F (k : Int) more).1 * more.1 < rs.getD k 0)) || (!((untilV F (k : Int) more).2 == 0) && !((untilV F (k : Int) more).1 == 0))) = true := hbad
      cases hz : ((untilV F (k : Int) more).2 == 0) with
      | true =>
        have := (U1 hz).2.2
        rw [hz] at hbad
        simp only [Bool.true_and, Bool.not_true, Bool.false_and, Bool.or_false, decide_eq_true_eq] at hbad
        omega
      | false =>
        have := U2 hz
        rw [hz, this] at hbad
        cases hbad
  refine ⟨fun s => ∃ k : Nat, k ≤ ss.length ∧ s = (k : Int), fun s => ((ss.length : Int) - s).toNat, ⟨0, Nat.zero_le _, rfl⟩, ?_⟩
  rintro _ ⟨s, hs, rfl⟩
  refine ⟨fun h => ?_, fun _ => ?_⟩
  · have h : (s : Int) < (ss.length : Int) := of_decide_eq_true h
    have hs' : s < ss.length := by omega
    refine ⟨⟨by omega, h⟩, sF, sF, ?_⟩
    refine ⟨fun c => ∃ k : Nat, k ≤ rs.length ∧ c = (cntL rs (ss.getD s 0) k, (k : Int)), fun c => ((rs.length : Int) - c.2).toNat, ⟨0, Nat.zero_le _, rfl⟩, ?_⟩
    rintro _ ⟨k, hk, rfl⟩
    have hcb := cnt_bd rs (ss.getD s 0) k
    refine ⟨fun h => ?_, fun hend => ?_⟩
    · have h : (k : Int) < (rs.length : Int) := of_decide_eq_true h
      refine ⟨⟨by show (0 : Int) ≤ (k : Int); omega, h⟩, fun hd => ?_, fun hd => ?_⟩
      · have hd : decide (rs.getD k 0 ≤ ss.getD s 0) = true := hd
        refine ⟨in64u_of (by show _ ≤ cntL rs (ss.getD s 0) k + 1; omega) (by show cntL rs (ss.getD s 0) k + 1 ≤ _; omega), i64 k (by omega), rfl, rfl, rfl, rfl, ⟨k + 1, by omega, ?_⟩, m1 k _ (by omega)⟩
        show (cntL rs (ss.getD s 0) k + 1, (k : Int) + 1) = (cntL rs (ss.getD s 0) k + cond (decide (rs.getD k 0 ≤ ss.getD s 0)) 1 0, _)
        rw [hd]; rfl
      · have hd : decide (rs.getD k 0 ≤ ss.getD s 0) = false := hd
        refine ⟨i64 k (by omega), rfl, rfl, rfl, rfl, ⟨k + 1, by omega, ?_⟩, m1 k _ (by omega)⟩
        show (cntL rs (ss.getD s 0) k, (k : Int) + 1) = (cntL rs (ss.getD s 0) k + cond (decide (rs.getD k 0 ≤ ss.getD s 0)) 1 0, _)
        rw [hd, cond_false, Int.add_zero]; rfl
    · have hend : ¬ (k : Int) < (rs.length : Int) := of_decide_eq_false hend
      obtain rfl : k = rs.length := by omega
      have d1 := hab (21 + s) 0 (ks s hs') (kl 0 (by omega))
      have d2 := hab 0 (21 + s) (kl 0 (by omega)) (ks s hs')
      rw [t0, tt_s] at d1 d2
      have fv := fV 1 s (21 + s) (.inr ⟨rfl, hs'⟩) (by show 21 + (s : Int) = _; omega)
      have gv : fade_Grade (F, (s : Int)) = (gradeGo (some b) ((21 + s : Nat) : Int) rs.length ((0 : Nat) : Int) (0, 0), 0) := by
        show gradeV F (s : Int) = _
        have hv : inB (s : Int) 0 (less1 F.2.2.1) = true := by
          rw [less1u_of O.ns, inB_iff, hF3]; omega
        rw [gradeV, hv, open_val O hbb, ← hF2]; rfl
      have G := grade_bd (b := b) (rs := rs) (v := ss.getD s 0) (o := 21 + s) rs.length 0 (0, 0) (fun j _ hj => by
        have g1 := hab (13 + j) (21 + s) (kr j (by omega)) (ks s hs')
        have g2 := hab (21 + s) (13 + j) (ks s hs') (kr j (by omega))
        rw [tt_s, tt_r (by omega)] at g1 g2
        exact ⟨fun hh => by omega, fun hh => by omega⟩) (by show (0 : Int) ≤ 0; omega) (by show (0 : Int) ≤ 0; omega)
      rw [Nat.zero_add] at G
      refine ⟨fun hbad => ?_, fun _ => ⟨i64 s (by omega), rfl, rfl, ⟨s + 1, by omega, rfl⟩, m1 s _ (by omega)⟩⟩
      dsimp only at hbad
      rw [fv, gv] at hbad
      have e : ss.getD (Int.toNat (s : Int)) 0 = ss.getD s 0 := rfl
      rw [e] at hbad
      simp only [Bool.or_eq_true, decide_eq_true_eq] at hbad
      rcases hbad with ((((hbad | hbad) | hbad) | hbad) | hbad) | hbad
      · cases hbad
      · omega
      · omega
      · cases hbad
      · omega
      · omega
  have hcl : (clashV F).2 = 4 := clash4.2 ⟨cards_iff.2 O, by rw [hbb]; rfl⟩
  refine ⟨sF, fun _ => trivial, ?_⟩
  show ((clashV F).2 == 4 && true) = true
  rw [hcl]; rfl
end Go.Fade
