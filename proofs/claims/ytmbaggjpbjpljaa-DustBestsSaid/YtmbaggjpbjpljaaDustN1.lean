/-
  Chapter 13: the law DustBests: the document's own search for the best plan.
-/
import Derived.Test.YtmbaggjpbjpljaaDustU1
set_option linter.all false


set_option maxRecDepth 100000
namespace Go.Dust
open Go Go.Sx

def rowV (b : Burn) (l : List Load) (left : Int) : Int := cond (bestG b l left).2.2 (bestG b l left).2.1 (-1)
theorem costRow_len (b : Burn) (l : List Load) : (costRow b l).length = 61 := by rw [costRow, List.length_map, List.length_range]
theorem costRow_get (b : Burn) (l : List Load) {left : Int} (h : 0 ≤ left ∧ left ≤ 60) : (costRow b l).getD left.toNat 0 = rowV b l left := by
  rw [costRow, range_getD _ 0 (show left.toNat < 61 by omega)]
  show rowV b l ((left.toNat : Nat) : Int) = _
  rw [show ((left.toNat : Nat) : Int) = left by omega]
theorem costs_len (b : Burn) : ∀ l : List Load, (costsV b l).length = l.length + 1
  | [] => rfl
  | x :: l => by rw [costsV, List.length_cons, costs_len b l, List.length_cons]
theorem costs_get (b : Burn) : ∀ (l : List Load) (i : Nat), i ≤ l.length → (costsV b l).getD i [] = costRow b (l.drop i)
  | [], 0, _ => rfl
  | x :: l, 0, _ => rfl
  | x :: l, i + 1, h => by
    rw [costsV, List.getD_cons_succ, costs_get b l i (by simpa using h), List.drop_succ_cons]
def valR (r : Rest) : Int := cond r.2.2 r.2.1 (-1)
/-- Of a coal's answer. -/
theorem coal_in {b : Burn} (hb : burnB b = true) {need : Span} (hn : spanB need 0 100000 = true) {d : Int} (hd : 0 ≤ d ∧ d ≤ 60) :
    coalV b need d = cond (coalB b need d) (coalS b need d, 0) ((0, 0), 4) := by
  rw [coalV, hb, hn, inB_iff.2 hd]
  cases coalB b need d <;> rfl
theorem v43 (x : Burn × List Load) (hp : k43.pre x) : V43 x := by
  obtain ⟨b, l⟩ := x
  obtain ⟨hb, hl⟩ : burnB b = true ∧ loadsB l = true := hp
  have B := burn_iff.1 hb
  have L := loads_iff.1 hl
  have hl8 := L.len
  have hroom := B.room
  have eR : ref13u_costs (b, l) = costsV b l := rfl
  rw [V43]
  dsimp only
  rw [eR]
  refine ⟨⟨⟨by omega, by omega⟩, roomy_of (by omega) (by omega) (by omega)⟩, by simp only [Z.in64]; omega, ?_⟩
  refine ⟨fun s => ∃ j : Nat, s.2 = (j : Int) - 1 ∧ j ≤ l.length ∧ s.1 = costsV b (l.drop j), fun s => (s.2 + 1).toNat, ⟨l.length, rfl, Nat.le_refl _, ?_⟩, ?_⟩
  · rw [List.drop_length]
    show [List.replicate 61 (0 : Int)] = [costRow b []]
    have : costRow b [] = List.replicate 61 (0 : Int) := by
      rw [costRow, List.eq_replicate_iff]
      refine ⟨by rw [List.length_map, List.length_range], fun y hy => ?_⟩
      obtain ⟨k, _, rfl⟩ := List.mem_map.1 hy
      rfl
    rw [this]
  rintro ⟨rows, i0⟩ ⟨j, g1, g2, g3⟩
  simp only at g1 g3
  subst g1
  refine ⟨fun hj => ?_, fun hj => ?_⟩
  · have hj : (0 : Int) ≤ (j : Int) - 1 := of_decide_eq_true hj
    obtain ⟨i, rfl⟩ : ∃ i : Nat, j = i + 1 := ⟨j - 1, by omega⟩
    have hil : i < l.length := by omega
    have ei : Int.toNat (((i + 1 : Nat) : Int) - 1) = i := by omega
    obtain ⟨y, hy⟩ : ∃ y, y = l.getD i (0, 0, 0) := ⟨_, rfl⟩
    have hyl := L.load _ (getD_mem l (0, 0, 0) i hil)
    have hdr := drop_getD l (0, 0, 0) i hil
    rw [← hy] at hyl hdr
    have e0 : rows.getD (Int.toNat 0) [] = costRow b (l.drop (i + 1)) := by
      rw [g3]
      show (costsV b (l.drop (i + 1))).getD 0 [] = _
      rw [costs_get b _ 0 (Nat.zero_le _), List.drop_zero]
    have hrl : rows.length ≤ 9 := by rw [g3, costs_len, List.length_drop]; omega
    have hrl0 : 0 < rows.length := by rw [g3, costs_len]; omega
    have ip : (0 : Int) ≤ ((i + 1 : Nat) : Int) - 1 ∧ ((i + 1 : Nat) : Int) - 1 < (l.length : Int) := ⟨by omega, by omega⟩
    have el : ∀ left : Int, 0 ≤ left ∧ left ≤ 60 → bestG b (l.drop i) left = (feedsV b y.2 (haveV b left y.1)).foldl (better b (bestG b (l.drop (i + 1))) (haveV b left y.1) (cartV b left y.1)) ([], 0, false) := fun left _ => by rw [hdr, bestG]
    refine ⟨fun s => ∃ k : Nat, s.2 = (k : Int) ∧ k ≤ 61 ∧ s.1 = (List.range k).map fun (a : Nat) => rowV b (l.drop i) (a : Int), fun s => (61 - s.2).toNat, ⟨0, rfl, Nat.zero_le _, rfl⟩, ?_⟩
    rintro ⟨row, k0⟩ ⟨k, r1, r2, r3⟩
    simp only at r1 r3
    subst r1
    have hrow : row.length = k := by rw [r3, List.length_map, List.length_range]
    refine ⟨fun hk => ?_, fun hk => ?_⟩
    · have hk : (k : Int) ≤ 60 := of_decide_eq_true hk
      have qs := stored_bd B (left := (k : Int)) ⟨by omega, hk⟩ hyl.1
      obtain ⟨hv, hhv⟩ : ∃ a, a = haveV b (k : Int) y.1 := ⟨_, rfl⟩
      obtain ⟨cv, hcv⟩ : ∃ a, a = cartV b (k : Int) y.1 := ⟨_, rfl⟩
      have eh : min b.2.2.1 ((k : Int) + y.1) = haveV b (k : Int) y.1 := rfl
      have ec : b.2.2.2.2 * ((k : Int) + y.1 - haveV b (k : Int) y.1) = cartV b (k : Int) y.1 := rfl
      have hG := el (k : Int) ⟨by omega, hk⟩
      dsimp only
      rw [ei, ← hy, eh, ec, ← hhv, ← hcv, e0]
      rw [← hhv, ← hcv] at qs hG
      have hhvn : hv = ((hv.toNat : Nat) : Int) := by omega
      refine ⟨ip, by simp only [Z.in64]; omega, ?_⟩
      refine ⟨fun s => ∃ (d : Nat) (r : Rest), s.2 = (d : Int) ∧ (d : Int) ≤ hv + 1 ∧ s.1 = valR r ∧ (r.2.2 = true → 0 ≤ r.2.1) ∧ bestG b (l.drop i) (k : Int) = ((List.range' d (hv.toNat + 1 - d)).flatMap (feedsAt b y.2)).foldl (better b (bestG b (l.drop (i + 1))) hv cv) r, fun s => (hv + 1 - s.2).toNat, ⟨0, ([], 0, false), rfl, by omega, rfl, fun h => (by cases h), ?_⟩, ?_⟩
      · rw [hG, feeds_eq, show (hv + 1).toNat = hv.toNat + 1 - 0 by omega]
      rintro ⟨best, d0⟩ ⟨d, r, q1, q2, q3, q4, q5⟩
      simp only at q1 q3
      subst q1
      refine ⟨fun hd => ?_, fun hd => ?_⟩
      · have hd : (d : Int) ≤ hv := of_decide_eq_true hd
        have eC : ref13u_Coal (b, y.2, (d : Int)) = coalV b y.2 (d : Int) := rfl
        have hspan : spanB y.2 0 100000 = true := span_iff.2 hyl.2
        rw [show hv.toNat + 1 - d = (hv.toNat + 1 - (d + 1)) + 1 by omega, flat_range, List.foldl_append] at q5
        obtain ⟨T, hT⟩ : ∃ T, T = bestG b (l.drop (i + 1)) (hv - (d : Int)) := ⟨_, rfl⟩
        have hTb := best_bd B (l.drop (i + 1)) (hv - (d : Int)) (fun z hz => (L.load z (List.mem_of_mem_drop hz)).1) ⟨by omega, by omega⟩
        rw [← hT, List.length_drop] at hTb
        have er : (costRow b (l.drop (i + 1))).getD (Int.toNat (hv - (d : Int))) 0 = valR T := by
          rw [costRow_get b _ ⟨by omega, by omega⟩, hT]; rfl
        have hmeas : (hv + 1 - ((d : Int) + 1)).toNat < (hv + 1 - (d : Int)).toNat := by omega
        have hi64 : Z.in64 ((d : Int) + 1) := by simp only [Z.in64]; omega
        dsimp only
        rw [eC, coal_in hb hspan ⟨by omega, by omega⟩, er]
        have hskip : (feedsAt b y.2 d).foldl (better b (bestG b (l.drop (i + 1))) hv cv) r = r → ∃ (d' : Nat) (r' : Rest), (d : Int) + 1 = (d' : Int) ∧ (d' : Int) ≤ hv + 1 ∧ best = valR r' ∧ (r'.2.2 = true → 0 ≤ r'.2.1) ∧ bestG b (l.drop i) (k : Int) = ((List.range' d' (hv.toNat + 1 - d')).flatMap (feedsAt b y.2)).foldl (better b (bestG b (l.drop (i + 1))) hv cv) r' := fun h =>
          ⟨d + 1, r, by omega, by omega, q3, q4, by rw [h] at q5; exact q5⟩
        have hTpos : T.2.2 = true → valR T = T.2.1 := fun h => by rw [valR, h]; rfl
        refine ⟨ip, trivial, ⟨by omega, by omega⟩, by simp only [Z.in64]; omega, ⟨by omega, by rw [costRow_len]; omega⟩, fun hc => ?_, fun hc => ?_⟩
        · refine ⟨hi64, rfl, rfl, rfl, hskip ?_, hmeas⟩
          unfold feedsAt
          cases hcb : coalB b y.2 (d : Int) with
          | false => rfl
          | true =>
            rw [hcb] at hc
            have hTn : T.2.2 = false := by
              cases ht : T.2.2 with
              | false => rfl
              | true =>
                exfalso
                rw [hTpos ht] at hc
                have : (T.2.1 == -1) = false := by rw [beq_eq_false_iff_ne]; omega
                rw [this] at hc
                simp at hc
            rw [cond_true, List.foldl_cons, List.foldl_nil]
            unfold better
            simp only
            rw [← hT, hTn]; rfl
        · have hcb : coalB b y.2 (d : Int) = true := by
            cases hcb : coalB b y.2 (d : Int) with
            | false => rw [hcb] at hc; simp at hc
            | true => rfl
          have ht : T.2.2 = true := by
            cases ht : T.2.2 with
            | false => rw [hcb, show valR T = -1 by rw [valR, ht]; rfl] at hc; simp at hc
            | true => rfl
          have cb := coal_bd hcb
          rw [hcb, hTpos ht]
          obtain ⟨S, hS⟩ : ∃ S, S = coalS b y.2 (d : Int) := ⟨_, rfl⟩
          have hpr := mul_bd (a := b.2.2.2.1) (A := 10000) B.price (b := S.1) (B := 200) (by rw [hS]; exact ⟨by omega, by omega⟩)
          have efold : (feedsAt b y.2 d).foldl (better b (bestG b (l.drop (i + 1))) hv cv) r = cond (!r.2.2 || decide (T.2.1 + b.2.2.2.1 * S.1 + cv < r.2.1)) (((d : Int), S.1) :: T.1, T.2.1 + b.2.2.2.1 * S.1 + cv, true) r := by
            rw [feedsAt, hcb, cond_true, List.foldl_cons, List.foldl_nil]
            unfold better
            simp only
            rw [← hT, ht, Bool.true_and, ← hS, show T.2.1 + cv + b.2.2.2.1 * S.1 = T.2.1 + b.2.2.2.1 * S.1 + cv by omega]
          dsimp only [cond_true]
          rw [← hS]
          have hq : ((best == -1) || decide (T.2.1 + b.2.2.2.1 * S.1 + cv < best)) = (!r.2.2 || decide (T.2.1 + b.2.2.2.1 * S.1 + cv < r.2.1)) := by
            rw [q3, valR]
            cases hr : r.2.2 with
            | false => rfl
            | true =>
              have := q4 hr
              rw [cond_true, show (r.2.1 == -1) = false by rw [beq_eq_false_iff_ne]; omega]; rfl
          rw [hq]
          refine ⟨by simp only [Z.in64]; omega, by simp only [Z.in64]; omega, ip, by simp only [Z.in64]; omega, by simp only [Z.in64]; omega, by simp only [Z.in64]; omega, by simp only [Z.in64]; omega, fun hc2 => ?_, fun hc2 => ?_⟩
          · rw [hc2, cond_true] at efold
            rw [efold] at q5
            refine ⟨hi64, rfl, rfl, rfl, ⟨d + 1, _, by show (d : Int) + 1 = ((d + 1 : Nat) : Int); omega, by omega, ?_, ?_, q5⟩, hmeas⟩
            · rfl
            · intro _
              show 0 ≤ T.2.1 + b.2.2.2.1 * S.1 + cv
              omega
          · rw [hc2, cond_false] at efold
            exact ⟨hi64, rfl, rfl, rfl, hskip efold, hmeas⟩
      · have hd : ¬ (d : Int) ≤ hv := of_decide_eq_false hd
        rw [show hv.toNat + 1 - d = 0 by omega] at q5
        have q5 : bestG b (l.drop i) (k : Int) = r := q5
        refine ⟨roomy_of (by omega) (by omega) ?_, by simp only [Z.in64]; omega, rfl, rfl, ⟨k + 1, by show (k : Int) + 1 = ((k + 1 : Nat) : Int); omega, by omega, ?_⟩, by show (61 - ((k : Int) + 1)).toNat < (61 - (k : Int)).toNat; omega⟩
        · rw [List.length_append, hrow]; simp only [List.length_set, List.length_replicate]; omega
        · show row ++ [best] = _
          rw [List.range_succ, List.map_append, ← r3, q3, ← q5]
          rfl
    · have hk : ¬ (k : Int) ≤ 60 := of_decide_eq_false hk
      have hk61 : k = 61 := by omega
      subst hk61
      refine ⟨roomy_of (by omega) (by omega) ?_, by simp only [Z.in64]; omega, rfl, ⟨i, by show ((i + 1 : Nat) : Int) - 1 - 1 = (i : Int) - 1; omega, by omega, ?_⟩, by show (((i + 1 : Nat) : Int) - 1 - 1 + 1).toNat < (((i + 1 : Nat) : Int) - 1 + 1).toNat; omega⟩
      · rw [List.length_append]; simp only [List.length_set, List.length_replicate]; omega
      · show [row] ++ rows = _
        rw [hdr, costsV, r3, g3, ← hdr]
        rfl
  · have hj : ¬ (0 : Int) ≤ (j : Int) - 1 := of_decide_eq_false hj
    have : j = 0 := by omega
    subst this
    exact g3
/-- Of all feeds that lead to the least cost the first one. -/
theorem best_first {b : Burn} {x : Load} {l : List Load} {left : Int} :
    let hv := haveV b left x.1
    let cv := cartV b left x.1
    let G := bestG b (x :: l) left
    (G.2.2 = true → ∃ e ∈ feedsV b x.2 hv, cand b (bestG b l) hv cv e = some G) ∧
    ∀ e ∈ feedsV b x.2 hv, ∀ r, cand b (bestG b l) hv cv e = some r → r.2.1 = G.2.1 → ∃ e' ∈ feedsV b x.2 hv, cand b (bestG b l) hv cv e' = some G ∧ (e' = e ∨ e'.1 < e.1) := by
  intro hv cv G
  obtain ⟨f1, f2⟩ := fold_best (R := fun e e' : Feed => e.1 < e'.1) (cand b (bestG b l) hv cv) (fun e r h => by rw [(cand_some.1 h).2]) (better b (bestG b l) hv cv)
      (fun r0 e h => (better_cand r0 e).1 h) (fun r0 e r h => (better_cand r0 e).2 r h) ([], 0, false) rfl (feedsV b x.2 hv) (feeds_sorted _ _ _)
  exact ⟨f1, fun e he r hr heq => (f2 e he r hr).2.2 heq.symm⟩
theorem v18 (x : Burn × List Load) (hp : k18.pre x) : V18 x := by
  obtain ⟨b, l⟩ := x
  have hbig : l.length ≤ big := hp
  have eB : ref13u_Burn b = burnB b := rfl
  have eO : ref13u_Loads l = loadsB l := rfl
  have eR : ref13u_Best (b, l) = bestOut b l := rfl
  have eK : ref13u_costs (b, l) = costsV b l := rfl
  rw [V18]
  dsimp only
  rw [eB, eO, eR, eK]
  refine ⟨trivial, fun h => ?_, fun h => ⟨hbig, fun h2 => ?_, fun h2 => ?_⟩⟩
  · rw [bestOut, show (!burnB b) = true from h]; rfl
  · rw [bestOut, show (!burnB b) = false from h, show (!loadsB l) = true from h2]; rfl
  have hb : burnB b = true := not_iff.2.1 h
  have hl : loadsB l = true := not_iff.2.1 h2
  have B := burn_iff.1 hb
  have L := loads_iff.1 hl
  have hl8 := L.len
  have hO : bestOut b l = cond (!(bestG b l 0).2.2) ([], 0, 4) ((bestG b l 0).1, (bestG b l 0).2.1, 0) := by rw [bestOut, hb, hl]; rfl
  have hbd : ∀ i (left : Int), 0 ≤ left ∧ left ≤ 60 → _ := fun i left hleft => best_bd B (l.drop i) left (fun z hz => (L.load z (List.mem_of_mem_drop hz)).1) hleft
  have e00 : ((costsV b l).getD (Int.toNat 0) []).getD (Int.toNat 0) 0 = rowV b l 0 := by
    show ((costsV b l).getD 0 []).getD (Int.toNat 0) 0 = _
    rw [costs_get b l 0 (Nat.zero_le _), List.drop_zero, costRow_get b l ⟨by omega, by omega⟩]
  have el0 : ((costsV b l).getD (Int.toNat 0) []).length = 61 := by
    show ((costsV b l).getD 0 []).length = 61
    rw [costs_get b l 0 (Nat.zero_le _), costRow_len]
  have hp1 : (0 : Int) ≤ 0 ∧ (0 : Int) < ((costsV b l).length : Int) := ⟨by omega, by rw [costs_len]; omega⟩
  have hp2 : (0 : Int) ≤ 0 ∧ (0 : Int) < (((costsV b l).getD (Int.toNat 0) []).length : Int) := ⟨by omega, by rw [el0]; omega⟩
  have hb0 := hbd 0 0 ⟨by omega, by omega⟩
  rw [List.drop_zero] at hb0
  refine ⟨⟨hb, hl⟩, hp1, hp2, fun h0 => ?_, fun h0 => ?_⟩
  · rw [e00] at h0
    have hno : (bestG b l 0).2.2 = false := by
      cases hi : (bestG b l 0).2.2 with
      | false => rfl
      | true =>
        exfalso
        rw [rowV, hi, cond_true, beq_iff_eq] at h0
        omega
    rw [hO, hno]; rfl
  have hyes : (bestG b l 0).2.2 = true := by
    cases hi : (bestG b l 0).2.2 with
    | true => rfl
    | false =>
      exfalso
      rw [e00, rowV, hi] at h0
      simp at h0
  rw [hyes] at hO
  have hO : bestOut b l = ((bestG b l 0).1, (bestG b l 0).2.1, 0) := hO
  refine ⟨fun s => ∃ i : Nat, s.2.2 = (i : Int) ∧ i ≤ l.length ∧ s.1.length = i ∧ (0 ≤ s.2.1 ∧ s.2.1 ≤ 60) ∧ (bestG b (l.drop i) s.2.1).2.2 = true ∧ (bestG b l 0).1 = s.1 ++ (bestG b (l.drop i) s.2.1).1, fun s => ((l.length : Int) - s.2.2).toNat, ⟨0, rfl, Nat.zero_le _, rfl, by simp, hyes, by rw [List.drop_zero, List.nil_append]⟩, ?_⟩
  rintro ⟨out, left, i0⟩ ⟨i, g1, g2, g3, g4, g5, g6⟩
  simp only at g1 g3 g4 g5 g6
  subst g1
  refine ⟨fun hi => ?_, fun hi => ?_⟩
  · have hi : (i : Int) < (l.length : Int) := of_decide_eq_true hi
    have hil : i < l.length := by omega
    obtain ⟨y, hy⟩ : ∃ y, y = l.getD i (0, 0, 0) := ⟨_, rfl⟩
    have e2 : l.getD (Int.toNat (i : Int)) (0, 0, 0) = y := hy.symm
    have hyl := L.load _ (getD_mem l (0, 0, 0) i hil)
    have hdr := drop_getD l (0, 0, 0) i hil
    rw [← hy] at hyl hdr
    have q := stored_bd B g4 hyl.1
    have eh : min b.2.2.1 (left + y.1) = haveV b left y.1 := rfl
    have ec : b.2.2.2.2 * (left + y.1 - haveV b left y.1) = cartV b left y.1 := rfl
    have hspan : spanB y.2 0 100000 = true := span_iff.2 hyl.2
    obtain ⟨f1, f2⟩ := best_first (b := b) (x := y) (l := l.drop (i + 1)) (left := left)
    have hGb := hbd i left g4
    rw [← hdr] at f1 f2
    obtain ⟨hv, hhv⟩ : ∃ a, a = haveV b left y.1 := ⟨_, rfl⟩
    obtain ⟨cv, hcv⟩ : ∃ a, a = cartV b left y.1 := ⟨_, rfl⟩
    obtain ⟨G, hG⟩ : ∃ G, G = bestG b (l.drop i) left := ⟨_, rfl⟩
    have eAll : ((costsV b l).getD (Int.toNat (i : Int)) []).getD (Int.toNat left) 0 = G.2.1 := by
      show ((costsV b l).getD i []).getD (Int.toNat left) 0 = _
      rw [costs_get b l i (by omega), costRow_get b _ g4, rowV, g5, hG]; rfl
    have eAllL : ((costsV b l).getD (Int.toNat (i : Int)) []).length = 61 := by
      show ((costsV b l).getD i []).length = 61
      rw [costs_get b l i (by omega), costRow_len]
    have eNext : (costsV b l).getD (Int.toNat ((i : Int) + 1)) [] = costRow b (l.drop (i + 1)) := by
      show (costsV b l).getD (Int.toNat (((i + 1 : Nat) : Int))) [] = _
      rw [Int.toNat_natCast, costs_get b l (i + 1) hil]
    dsimp only
    rw [e2, eh, ec]
    rw [← hhv, ← hcv] at f1 f2 q ⊢
    rw [← hG] at f1 f2 g5 g6 hGb
    rw [List.length_drop] at hGb
    have ip : (0 : Int) ≤ (i : Int) ∧ (i : Int) < (l.length : Int) := ⟨by omega, hi⟩
    refine ⟨ip, by simp only [Z.in64]; omega, ip, by simp only [Z.in64]; omega, by simp only [Z.in64]; omega, by simp only [Z.in64]; omega, ?_⟩
    refine ⟨fun s => s.1 = out ∧ s.2.1 = left ∧ ∃ d : Nat, s.2.2 = (d : Int) ∧ (d : Int) ≤ hv + 1 ∧ ∀ e ∈ feedsV b y.2 hv, e.1 < (d : Int) → ∀ r, cand b (bestG b (l.drop (i + 1))) hv cv e = some r → r.2.1 ≠ G.2.1, fun s => (hv + 1 - s.2.2).toNat, ⟨rfl, rfl, 0, rfl, by omega, fun e he hlt => ?_⟩, ?_⟩
    · have := (feeds_iff.1 he).1
      exfalso
      have hlt : e.1 < 0 := hlt
      omega
    rintro ⟨out', left', d0⟩ ⟨q1, q2, d, q3, q4, q5⟩
    simp only at q1 q2 q3
    subst q1 q2 q3
    refine ⟨fun hd => ?_, fun hd => ?_⟩
    · have hd : (d : Int) ≤ hv := of_decide_eq_true hd
      have eC : ref13u_Coal (b, y.2, (d : Int)) = coalV b y.2 (d : Int) := rfl
      obtain ⟨T, hT⟩ : ∃ T, T = bestG b (l.drop (i + 1)) (hv - (d : Int)) := ⟨_, rfl⟩
      have hTb := hbd (i + 1) (hv - (d : Int)) ⟨by omega, by omega⟩
      rw [← hT, List.length_drop] at hTb
      have er : (costRow b (l.drop (i + 1))).getD (Int.toNat (hv - (d : Int))) 0 = valR T := by
        rw [costRow_get b _ ⟨by omega, by omega⟩, hT]; rfl
      dsimp only
      rw [eC, coal_in hb hspan ⟨by omega, by omega⟩, eNext, er, eAll, eAllL, costRow_len]
      have ip2 : (0 : Int) ≤ (i : Int) + 1 ∧ (i : Int) + 1 < ((costsV b l).length : Int) := ⟨by omega, by rw [costs_len]; omega⟩
      have hi64 : Z.in64 ((i : Int) + 1) := by simp only [Z.in64]; omega
      have hcost : (((cond (coalB b y.2 (d : Int)) (coalS b y.2 (d : Int), (0 : Int)) ((0, 0), 4)).2 == 0) && !(valR T == -1)) = true → coalB b y.2 (d : Int) = true ∧ T.2.2 = true ∧ valR T = T.2.1 := fun hc => by
        cases hcb : coalB b y.2 (d : Int) with
        | false => rw [hcb] at hc; simp at hc
        | true =>
          cases ht : T.2.2 with
          | false => rw [show valR T = -1 by rw [valR, ht]; rfl] at hc; simp at hc
          | true => exact ⟨rfl, rfl, by rw [valR, ht]; rfl⟩
      have hbound : (((cond (coalB b y.2 (d : Int)) (coalS b y.2 (d : Int), (0 : Int)) ((0, 0), 4)).2 == 0) && !(valR T == -1)) = true → Z.in64 (b.2.2.2.1 * (cond (coalB b y.2 (d : Int)) (coalS b y.2 (d : Int), (0 : Int)) ((0, 0), 4)).1.1) ∧ Z.in64 (valR T + b.2.2.2.1 * (cond (coalB b y.2 (d : Int)) (coalS b y.2 (d : Int), (0 : Int)) ((0, 0), 4)).1.1) ∧ Z.in64 (valR T + b.2.2.2.1 * (cond (coalB b y.2 (d : Int)) (coalS b y.2 (d : Int), (0 : Int)) ((0, 0), 4)).1.1 + cv) := fun hc => by
        obtain ⟨h1, h2, h3⟩ := hcost hc
        have cb := coal_bd h1
        rw [h1, h3, cond_true]
        have hpr := mul_bd (a := b.2.2.2.1) (A := 10000) B.price (b := (coalS b y.2 (d : Int)).1) (B := 200) ⟨by omega, by omega⟩
        refine ⟨?_, ?_, ?_⟩ <;> simp only [Z.in64] <;> omega
      have hmem : coalB b y.2 (d : Int) = true → ((d : Int), (coalS b y.2 (d : Int)).1) ∈ feedsV b y.2 hv := fun h => feeds_iff.2 ⟨by show 0 ≤ (d : Int); omega, hd, h, rfl⟩
      have hcand : ∀ c, cand b (bestG b (l.drop (i + 1))) hv cv ((d : Int), c) = cond T.2.2 (some (((d : Int), c) :: T.1, T.2.1 + cv + b.2.2.2.1 * c, true)) none := fun c => by rw [hT]; rfl
      refine ⟨ip, trivial, hi64, ip2, by simp only [Z.in64]; omega, ⟨by omega, by omega⟩, fun hc => (hbound hc).1, fun hc => (hbound hc).2.1, fun hc => (hbound hc).2.2, fun _ => ⟨by omega, by rw [costs_len]; omega⟩, fun _ => ⟨g4.1, by omega⟩, fun hc => ?_, fun hc => ?_⟩
      · rw [Bool.and_eq_true] at hc
        obtain ⟨hc1, hc2⟩ := hc
        obtain ⟨h1, h2, h3⟩ := hcost hc1
        rw [h1, h3, cond_true, beq_iff_eq] at hc2
        dsimp only at hc2
        rw [h1]
        have hce := hcand (coalS b y.2 (d : Int)).1
        rw [h2, cond_true] at hce
        obtain ⟨e', he', hce', hor⟩ := f2 _ (hmem h1) _ hce (by show T.2.1 + cv + b.2.2.2.1 * (coalS b y.2 (d : Int)).1 = G.2.1; omega)
        have hee : e' = ((d : Int), (coalS b y.2 (d : Int)).1) := by
          rcases hor with h | h
          · exact h
          · exact absurd rfl (q5 e' he' h G hce')
        rw [hee, hce, Option.some_inj] at hce'
        have hTf := hT
        refine ⟨roomy_of (by omega) (by omega) ?_, by simp only [Z.in64]; omega, hi64, ⟨i + 1, by show (i : Int) + 1 = ((i + 1 : Nat) : Int); omega, hil, ?_, ⟨by show 0 ≤ hv - (d : Int); omega, by show hv - (d : Int) ≤ 60; omega⟩, ?_, ?_⟩, by show ((l.length : Int) - ((i : Int) + 1)).toNat < ((l.length : Int) - (i : Int)).toNat; omega⟩
        · rw [List.length_append]; simp only [List.length_set, List.length_replicate]; omega
        · rw [List.length_append]; simp only [List.length_set, List.length_replicate]; omega
        · show (bestG b (l.drop (i + 1)) (hv - (d : Int))).2.2 = true
          rw [← hT]; exact h2
        · show (bestG b l 0).1 = (out' ++ [((d : Int), (coalS b y.2 (d : Int)).1)]) ++ (bestG b (l.drop (i + 1)) (hv - (d : Int))).1
          rw [← hT, g6, ← hce', List.append_assoc]; rfl
      · refine ⟨by simp only [Z.in64]; omega, ⟨rfl, rfl, d + 1, by show (d : Int) + 1 = ((d + 1 : Nat) : Int); omega, by omega, fun e he hlt r hr => ?_⟩, by show (hv + 1 - ((d : Int) + 1)).toNat < (hv + 1 - (d : Int)).toNat; omega⟩
        rcases Int.lt_or_eq_of_le (show e.1 ≤ (d : Int) by omega) with h | h
        · exact q5 e he h r hr
        · obtain ⟨u1, u2, u3, u4⟩ := feeds_iff.1 he
          rw [h] at u3 u4
          have hee : e = ((d : Int), (coalS b y.2 (d : Int)).1) := Prod.ext h u4
          rw [hee, hcand] at hr
          cases ht : T.2.2 with
          | false => rw [ht] at hr; cases hr
          | true =>
            rw [ht, cond_true, Option.some_inj] at hr
            intro heq
            have hvT : valR T = T.2.1 := by rw [valR, ht]; rfl
            rw [u3, hvT] at hc
            have hne : (T.2.1 == -1) = false := by rw [beq_eq_false_iff_ne]; omega
            rw [hne, ← heq, ← hr] at hc
            simp only [cond_true, beq_self_eq_true, Bool.not_false, Bool.and_true, Bool.true_and, beq_eq_false_iff_ne] at hc
            exact hc (by omega)
    · have hd : ¬ (d : Int) ≤ hv := of_decide_eq_false hd
      exfalso
      obtain ⟨e, he, hce⟩ := f1 g5
      have := (feeds_iff.1 he).2.1
      exact q5 e he (by omega) G hce rfl
  · have hi : ¬ (i : Int) < (l.length : Int) := of_decide_eq_false hi
    have hii : i = l.length := by omega
    subst hii
    rw [List.drop_length] at g6
    refine ⟨hp1, hp2, ?_⟩
    rw [e00, hO, g6, rowV, hyes]
    simp [bestG]
theorem bestOut_len {b : Burn} {l : List Load} : (bestOut b l).1.length ≤ 8 := by
  cases hb : burnB b with
  | false => rw [bestOut, hb]; simp
  | true =>
    cases hl : loadsB l with
    | false => rw [bestOut, hb, hl]; simp
    | true =>
      have L := loads_iff.1 hl
      have := L.len
      rcases best_all hb hl with ⟨e, _⟩ | ⟨P, e, hf, _⟩
      · rw [e]; simp
      · rw [e]; show P.length ≤ 8; rw [fits_len hf]; exact this
theorem v4 (x : Burn × List Load) (_ : k4.pre x) : V4 x := by
  obtain ⟨b, l⟩ := x
  refine ⟨fun _ => ⟨trivial, rfl⟩, fun h => ?_⟩
  have h : ((decide ((3 : Int) < (l.length : Int)) && decide ((l.length : Int) ≤ 8)) || decide ((12 : Int) < (l.length : Int))) = false := h
  simp only [Bool.or_eq_false_iff, decide_eq_false_iff_not] at h
  refine ⟨trivial, by show l.length ≤ big; simp only [big]; omega, ?_, fun _ => trivial, ?_⟩
  · show (bestOut b l).1.length ≤ big
    have := bestOut_len (b := b) (l := l)
    simp only [big]; omega
  · refine bool_ext ?_
    simp only [law13u_DustBests, law13u_awake, dust_Best, ref13u_Best, ref13u_Feeds, beq_self_eq_true, decide_true, Bool.and_self]
end Go.Dust
