/-
  Chapter 13: the law DustBest.
-/
import Derived.Test.YtmbaggjpbjpljaaDustU1
set_option linter.all false


set_option maxRecDepth 100000
namespace Go.Dust
open Go Go.Sx

theorem take_succ {α : Type} (l : List α) (d : α) (i : Nat) (h : i < l.length) : l.take (i + 1) = l.take i ++ [l.getD i d] := by
  rw [List.take_succ_eq_append_getElem h]
  simp [List.getD, h]
/-- A plan whose feeds may be, for as far as it goes; what is left at its end. -/
def near (b : Burn) : List Load → Int → List Feed → Int → Prop
  | [], left, [], e => left = e
  | x :: l, left, f :: p, e => mayB f = true ∧ f.1 ≤ haveV b left x.1 ∧ near b l (haveV b left x.1 - f.1) p e
  | _, _, _, _ => False
theorem near_snoc {b : Burn} {x : Load} {f : Feed} {e : Int} (h1 : mayB f = true) (h2 : f.1 ≤ haveV b e x.1) : ∀ {l : List Load} {left : Int} {p : List Feed}, near b l left p e → near b (l ++ [x]) left (p ++ [f]) (haveV b e x.1 - f.1)
  | [], left, [], h => by
    have h : left = e := h
    subst h
    exact ⟨h1, h2, rfl⟩
  | y :: l, left, g :: p, h => ⟨h.1, h.2.1, near_snoc h1 h2 h.2.2⟩
theorem near_len {b : Burn} : ∀ {l : List Load} {left : Int} {p : List Feed} {e : Int}, near b l left p e → p.length = l.length
  | [], _, [], _, _ => rfl
  | _ :: l, _, _ :: p, _, h => by rw [List.length_cons, List.length_cons, near_len h.2.2]
theorem near_follow {b : Burn} {plan : List Feed} {e : Int} : ∀ (l : List Load) (i : Nat) (have_ cost : Int) (left : List Int), near b l have_ (plan.drop i) e →
    (followGo b plan l i have_ cost left).2.2.2 = 0 ∨ ∃ k : Nat, followGo b plan l i have_ cost left = ([], 0, (k : Int), 11) ∧ k < i + l.length
  | [], i, have_, cost, left, h => by
    simp only [followGo]
    by_cases hi : i < plan.length
    · rw [drop_getD plan (0, 0) i hi] at h; exact h.elim
    · rw [decide_eq_false hi]; exact .inl rfl
  | x :: l, i, have_, cost, left, h => by
    simp only [followGo]
    by_cases hi : i < plan.length
    · rw [drop_getD plan (0, 0) i hi] at h
      obtain ⟨h1, h2, h3⟩ := h
      rw [decide_eq_false (show ¬ plan.length ≤ i by omega), h1, decide_eq_false (show ¬ haveV b have_ x.1 < (plan.getD i (0, 0)).1 by omega)]
      cases hd : doesB b (plan.getD i (0, 0)) x.2 with
      | false => exact .inr ⟨i, rfl, by rw [List.length_cons]; omega⟩
      | true =>
        rcases near_follow l (i + 1) (haveV b have_ x.1 - (plan.getD i (0, 0)).1) (cost + (cartV b have_ x.1 + b.2.2.2.1 * (plan.getD i (0, 0)).2)) (left ++ [haveV b have_ x.1 - (plan.getD i (0, 0)).1]) h3 with g | ⟨k, g, hk⟩
        · exact .inl g
        · exact .inr ⟨k, g, by rw [List.length_cons]; omega⟩
    · rw [List.drop_eq_nil_of_le (by omega)] at h; exact h.elim
theorem lexle_step {P Q : List Feed} {k : Nat} (h : lexle (P.drop k) (Q.drop k)) (h1 : k < P.length) (h2 : k < Q.length) :
    tlt (P.getD k (0, 0)) (Q.getD k (0, 0)) ∨ (P.getD k (0, 0) = Q.getD k (0, 0) ∧ lexle (P.drop (k + 1)) (Q.drop (k + 1))) := by
  rw [drop_getD P (0, 0) k h1, drop_getD Q (0, 0) k h2] at h
  exact h
theorem v7 (x : Burn × (List Load) × List Int) (hp : k7.pre x) : V7 x := by
  obtain ⟨b, l, by_⟩ := x
  obtain ⟨hby, hbl⟩ : (∀ b ∈ by_, 0 ≤ b ∧ b ≤ 255) ∧ by_.length ≤ 140737488355328 := hp
  have eA : law13u_awake () = true := rfl
  have eL : law13u_DustBest (b, l, by_) = true := rfl
  have eB : ref13u_Burn b = burnB b := rfl
  have eO : ref13u_Loads l = loadsB l := rfl
  have eP : dust_Best (b, l) = bestOut b l := rfl
  have eF : ∀ p, dust_Follow (b, l, p) = followV b l p := fun _ => rfl
  have eC : ∀ n d, dust_Coal (b, n, d) = coalV b n d := fun _ _ => rfl
  rw [V7]
  dsimp only
  rw [eA, eL, eB, eO, eP]
  refine ⟨fun _ => trivial, fun h => ?_, fun _ => ⟨trivial, rfl⟩, fun h => ⟨trivial, ?_⟩⟩
  · show l.length ≤ big
    simp only [Bool.or_eq_false_iff, decide_eq_false_iff_not] at h
    simp only [big]; omega
  simp only [Bool.or_eq_false_iff, decide_eq_false_iff_not, Bool.not_eq_false', beq_eq_false_iff_ne] at h
  obtain ⟨⟨⟨_, hn0⟩, hb⟩, hl⟩ := h
  have hn : (0 : Int) < (by_.length : Int) := by omega
  have B := burn_iff.1 hb
  have L := loads_iff.1 hl
  have hl8 := L.len
  have hroom := B.room
  refine ⟨fun s => ∃ i : Nat, s.2.2 = (i : Int) ∧ i ≤ l.length ∧ near b (l.take i) 0 s.1 s.2.1 ∧ 0 ≤ s.2.1 ∧ s.2.1 ≤ 60, fun s => ((l.length : Int) - s.2.2).toNat, ⟨0, rfl, Nat.zero_le _, rfl, by simp, by simp⟩, ?_⟩
  rintro ⟨other, have_, i0⟩ ⟨i, g1, g2, g3, g4, g5⟩
  simp only at g1 g3 g4 g5
  subst g1
  have hol := near_len g3
  rw [List.length_take] at hol
  refine ⟨fun hi => ?_, fun hi => ?_⟩
  · have hi : (i : Int) < (l.length : Int) := of_decide_eq_true hi
    have hil : i < l.length := by omega
    obtain ⟨y, hy⟩ : ∃ y, y = l.getD i (0, 0, 0) := ⟨_, rfl⟩
    have e2 : l.getD (Int.toNat (i : Int)) (0, 0, 0) = y := hy.symm
    have hyl := L.load _ (getD_mem l (0, 0, 0) i hil)
    rw [← hy] at hyl
    have q := stored_bd B ⟨g4, g5⟩ hyl.1
    have eh : min b.2.2.1 (have_ + y.1) = haveV b have_ y.1 := rfl
    obtain ⟨hv, hhv⟩ : ∃ a, a = haveV b have_ y.1 := ⟨_, rfl⟩
    have hm := tmod_bd (a := (i : Int)) (n := (by_.length : Int)) (by omega) hn
    have hm2 := tmod_bd (a := (i : Int) + 1) (n := (by_.length : Int)) (by omega) hn
    obtain ⟨w, hw⟩ : ∃ w, w = by_.getD (Int.toNat (Int.tmod (i : Int) (by_.length : Int))) 0 := ⟨_, rfl⟩
    have hwb := hby _ (getD_mem' by_ 0 _ hm.1 hm.2)
    rw [← hw] at hwb
    obtain ⟨w2, hw2⟩ : ∃ w, w = by_.getD (Int.toNat (Int.tmod ((i : Int) + 1) (by_.length : Int))) 0 := ⟨_, rfl⟩
    have hwb2 := hby _ (getD_mem' by_ 0 _ hm2.1 hm2.2)
    rw [← hw2] at hwb2
    dsimp only
    rw [e2, eh, ← hhv, ← hw, ← hw2]
    rw [← hhv] at q
    have hd := tmod_bd (a := w) (n := hv + 1) hwb.1 (by omega)
    obtain ⟨d, hdd⟩ : ∃ d, d = Int.tmod w (hv + 1) := ⟨_, rfl⟩
    rw [← hdd] at hd ⊢
    rw [eC]
    have hstep : ∀ c, 0 ≤ c → c ≤ 200 → ∃ i' : Nat, (i : Int) + 1 = (i' : Int) ∧ i' ≤ l.length ∧ near b (l.take i') 0 (other ++ ((List.replicate 1 (0, 0)).set 0 (d, c))) (hv - d) ∧ 0 ≤ hv - d ∧ hv - d ≤ 60 := fun c hc1 hc2 => by
      refine ⟨i + 1, by omega, hil, ?_, by omega, by omega⟩
      rw [take_succ l (0, 0, 0) i hil, ← hy, hhv]
      exact near_snoc (f := (d, c)) (may_iff.2 ⟨⟨hd.1, by show d ≤ 60; omega⟩, hc1, hc2⟩) (by rw [← hhv]; show d ≤ hv; omega) g3
    have hmeas : ((l.length : Int) - ((i : Int) + 1)).toNat < ((l.length : Int) - (i : Int)).toNat := by omega
    have hroomy : ∀ c : Int, Z.roomy 2 ((other ++ ((List.replicate 1 (0, 0)).set 0 (d, c))).length : Int) := fun c => by
      refine roomy_of (by omega) (by omega) ?_
      rw [List.length_append]; simp only [List.length_set, List.length_replicate]; omega
    refine ⟨⟨by omega, hi⟩, by simp only [Z.in64]; omega, by omega, hm, by simp only [Z.in64]; omega, by omega, ⟨by omega, hi⟩, trivial, fun hc => ?_, fun hc => ?_⟩
    · rcases coal_cases b y.2 d with ⟨_, e⟩ | ⟨_, _, e⟩ | ⟨_, _, _, _, e⟩ | ⟨_, _, _, h4, e⟩
      · rw [e] at hc; simp at hc
      · rw [e] at hc; simp at hc
      · rw [e] at hc; simp at hc
      have cb := coal_bd h4
      rw [e]
      dsimp only
      obtain ⟨S, hS⟩ : ∃ S, S = coalS b y.2 d := ⟨_, rfl⟩
      rw [← hS] at cb ⊢
      have hdiv : 0 ≤ Int.tdiv w2 64 ∧ Int.tdiv w2 64 ≤ 255 := by
        rw [Int.tdiv_eq_ediv_of_nonneg hwb2.1]; omega
      have hpm := tmod_bd (a := Int.tdiv w2 64) (n := S.2 - S.1 + 1) hdiv.1 (by omega)
      refine ⟨by simp only [Z.in64]; omega, by omega, hm2, ⟨by omega, by simp only [Z.in64]; omega⟩, by simp only [Z.in64]; omega, by simp only [Z.in64]; omega, by omega, by simp only [Z.in64]; omega, hroomy _, by simp only [Z.in64]; omega, by simp only [Z.in64]; omega, hstep _ (by omega) (by omega), hmeas⟩
    · exact ⟨hroomy _, by simp only [Z.in64]; omega, by simp only [Z.in64]; omega, hstep 0 (by omega) (by omega), hmeas⟩
  · have hi : ¬ (i : Int) < (l.length : Int) := of_decide_eq_false hi
    have hii : i = l.length := by omega
    rw [List.take_of_length_le (by omega)] at g3
    have hol : other.length = l.length := near_len g3
    dsimp only
    rw [eF]
    refine ⟨trivial, fun h0 => ⟨fun _ => trivial, ?_⟩, fun h0 => ?_⟩
    · have hne : (followV b l other).2.2.2 ≠ 0 := by simpa using h0
      rw [follow_ok other hb hl] at hne ⊢
      rcases near_follow (plan := other) l 0 0 0 [] (by rw [List.drop_zero]; exact g3) with g | ⟨k, g, hk⟩
      · exact absurd g hne
      · rw [g]
        dsimp only
        rw [decide_eq_true (show (k : Int) < (l.length : Int) by omega)]
        rcases best_all hb hl with ⟨e, _⟩ | ⟨P, e, _, _⟩ <;> rw [e] <;> rfl
    · have h00 : (followV b l other).2.2.2 = 0 := by simpa using h0
      have hfit := (follow_all hb hl other).2 h00
      rw [(follow_all hb hl other).1 hfit]
      rcases best_all hb hl with ⟨e, hno⟩ | ⟨P, e, hf, hopt⟩
      · exact absurd hfit (hno other)
      rw [e]
      dsimp only
      have hPl := fits_len hf
      obtain ⟨o1, o2⟩ := hopt other hfit
      refine ⟨fun h => ?_, fun _ => ⟨fun _ => ⟨trivial, rfl⟩, fun hlt => ?_⟩⟩
      · exfalso
        rw [hPl, hol, decide_eq_false (by omega)] at h
        simp at h
      have hlt : ¬ costR b l 0 P < costR b l 0 other := of_decide_eq_false hlt
      have hlex := o2 (by omega)
      refine ⟨fun s => ∃ k : Nat, s = (k : Int) ∧ k ≤ P.length ∧ lexle (P.drop k) (other.drop k), fun s => ((P.length : Int) - s).toNat, ⟨0, rfl, Nat.zero_le _, hlex⟩, ?_⟩
      rintro s ⟨k, rfl, r2, r3⟩
      refine ⟨fun hk => ?_, fun hk => ⟨trivial, rfl⟩⟩
      have hk : (k : Int) < (P.length : Int) := of_decide_eq_true hk
      have hP : (0 : Int) ≤ (k : Int) ∧ (k : Int) < (P.length : Int) := ⟨by omega, hk⟩
      have hO : (0 : Int) ≤ (k : Int) ∧ (k : Int) < (other.length : Int) := ⟨by omega, by omega⟩
      have hstep := lexle_step r3 (by omega) (by omega)
      have e1 : P.getD (Int.toNat (k : Int)) (0, 0) = P.getD k (0, 0) := rfl
      have e2 : other.getD (Int.toNat (k : Int)) (0, 0) = other.getD k (0, 0) := rfl
      rw [e1, e2]
      obtain ⟨u, hu⟩ : ∃ u, u = P.getD k (0, 0) := ⟨_, rfl⟩
      obtain ⟨v, hv⟩ : ∃ u, u = other.getD k (0, 0) := ⟨_, rfl⟩
      rw [← hu, ← hv] at hstep ⊢
      refine ⟨hP, hO, fun hne => ⟨hP, hO, fun _ => hP, fun _ => hO, fun _ => hP, fun _ => hO, fun _ => trivial, ?_⟩, fun heq => ⟨by simp only [Z.in64]; omega, rfl, ⟨k + 1, by omega, by omega, ?_⟩, by show ((P.length : Int) - ((k : Int) + 1)).toNat < ((P.length : Int) - (k : Int)).toNat; omega⟩⟩
      · rcases hstep with (h1 | ⟨h1, h2⟩) | ⟨h1, _⟩
        · rw [decide_eq_true h1]; rfl
        · rw [h1, beq_self_eq_true, decide_eq_true h2]
          cases decide (v.1 < v.1) <;> rfl
        · exfalso
          rw [h1] at hne
          simp at hne
      · have heq : u = v := by
          simp only [Bool.not_eq_false', Bool.and_eq_true, beq_iff_eq] at heq
          exact Prod.ext heq.1 heq.2
        rcases hstep with (h1 | ⟨h1, h2⟩) | ⟨_, h2⟩
        · rw [heq] at h1; omega
        · rw [heq] at h2; omega
        · exact h2
end Go.Dust
