/-
  Chapter 4: the document's own search finds the best plan.
-/
import Derived.Test.YtihkgphflgojeaaDieN1
set_option linter.all false


set_option maxRecDepth 100000
namespace Go.Die
open Go Go.Sx

theorem fits_in {p : Press} : ∀ {l : List Draw} {u q : List Int}, fits p l u q → ∀ k ∈ q, 0 ≤ k ∧ k < (p.1.length : Int)
  | [], _, [], _, k, hk => by cases hk
  | d :: l, u, a :: q, h, k, hk => by
    rcases List.mem_cons.1 hk with rfl | hk
    · exact h.1.1
    · exact fits_in h.2 k hk
theorem v19 (x : Press × List Draw) (hx : k19.pre x) : V19 x := by
  obtain ⟨p, l⟩ := x
  obtain ⟨hb1, hb2⟩ : p.1.length ≤ big ∧ l.length ≤ big := hx
  have e : ref04u_Plan (p, l) = planOut p l := rfl
  refine ⟨hb1, fun h => ?_, fun h => ⟨hb2, fun h2 => ?_, fun h2 => ?_⟩⟩
  · rw [e, planOut, show (!pressB p) = true from h]; rfl
  · rw [e, planOut, show (!pressB p) = false from h, show (!drawsB l) = true from h2]; rfl
  have hp : pressB p = true := not_iff.2.1 h
  have hl : drawsB l = true := not_iff.2.1 h2
  have H := press_iff.1 hp
  have L := draws_iff.1 hl
  have hl8 := L.len
  have hlen := H.len
  obtain ⟨A, hA⟩ : ∃ A, A = plansFrom p.1.length l.length [] := ⟨_, rfl⟩
  have eA : ref04u_plans ((l.length : Int), (p.1.length : Int), [], []) = A := hA.symm
  have hp4 : 4 ^ l.length ≤ 65536 := by
    have h2 : 4 ^ l.length ≤ 4 ^ 8 := Nat.pow_le_pow_right (by decide) hl8
    omega
  have hAl : A.length ≤ 65536 := by
    have h1 := plans_len (n := p.1.length) (by omega) l.length []
    rw [← hA] at h1
    omega
  have hIn : ∀ k, k < A.length → (A.getD k []).length = l.length ∧ ∀ d ∈ A.getD k [], 0 ≤ d ∧ d < (p.1.length : Int) := fun k hk => by
    have hm : A.getD k [] ∈ plansFrom p.1.length l.length [] := by rw [← hA]; exact getD_mem A [] k hk
    obtain ⟨r, hr, h1, h2⟩ := (plansFrom_iff _ _).1 hm
    rw [List.nil_append] at hr
    rw [hr]
    exact ⟨h1, h2⟩
  have hCp : ∀ k, k < A.length → ref04u_Cost_p (p, A.getD k []) := fun k hk => by
    obtain ⟨h1, h2⟩ := hIn k hk
    exact ⟨hp, by show (A.getD k []).length ≤ 20; omega, fun d hd => by have := h2 d hd; omega⟩
  obtain ⟨cost, hcost⟩ : ∃ cost : Nat → Int, cost = fun k => costGo p (-1) (A.getD k []) := ⟨_, rfl⟩
  obtain ⟨sh, hsh⟩ : ∃ sh : Nat → Prop, sh = fun k => (followV p l (A.getD k [])).2.2 = 0 := ⟨_, rfl⟩
  have gc : ∀ k, ref04u_Cost (p, A.getD k []) = cost k := fun k => by rw [hcost]; rfl
  dsimp only
  rw [eA]
  refine ⟨⟨⟨by show (0 : Int) ≤ (l.length : Int); omega, by show (l.length : Int) ≤ 8; omega, by show (0 : Int) ≤ (p.1.length : Int); omega, by show (p.1.length : Int) ≤ 4; omega, by show ((0 : Nat) : Int) ≤ (l.length : Int); omega, by show 0 + 4 ^ l.length ≤ 1000000; omega⟩, trivial, trivial⟩, ?_⟩
  refine ⟨fun s => ∃ i : Nat, s.2 = (i : Int) ∧ i ≤ A.length ∧ ((s.1 = -1 ∧ ∀ k, k < i → ¬ sh k) ∨ ∃ j : Nat, s.1 = (j : Int) ∧ j < i ∧ sh j ∧ (∀ k, k < i → sh k → cost j ≤ cost k) ∧ ∀ k, k < j → sh k → cost j < cost k), fun s => ((A.length : Int) - s.2).toNat, ⟨0, rfl, Nat.zero_le _, .inl ⟨rfl, fun k hk => (by omega)⟩⟩, ?_⟩
  rintro ⟨bst, i0⟩ ⟨i, hi, hil, hb⟩
  simp only at hi hb
  subst hi
  refine ⟨fun h => ?_, fun h => ?_⟩
  · have h : (i : Int) < (A.length : Int) := of_decide_eq_true h
    have hiA : i < A.length := by omega
    have r1 : 0 ≤ (i : Int) ∧ (i : Int) < (A.length : Int) := ⟨by omega, h⟩
    have hb0 : decide (bst < 0) = false → ∃ j : Nat, bst = (j : Int) ∧ j < i := by
      intro hd
      have hd := of_decide_eq_false hd
      rcases hb with ⟨rfl, _⟩ | ⟨j, hj, hji, _⟩
      · omega
      · exact ⟨j, hj, hji⟩
    have hm : ((A.length : Int) - ((i : Int) + 1)).toNat < ((A.length : Int) - (i : Int)).toNat := by omega
    refine ⟨r1, ⟨hb1, hb2⟩, fun _ => r1, fun _ => hCp i hiA, fun hx => ?_, fun hx => ?_, fun hx => ⟨by simp only [Z.in64]; omega, rfl, ⟨i + 1, by show (i : Int) + 1 = ((i + 1 : Nat) : Int); omega, by omega, .inr ⟨i, rfl, by omega, ?_, ?_, ?_⟩⟩, hm⟩, fun hx => ⟨by simp only [Z.in64]; omega, rfl, ⟨i + 1, by show (i : Int) + 1 = ((i + 1 : Nat) : Int); omega, by omega, ?_⟩, hm⟩⟩
    · obtain ⟨j, rfl, hji⟩ := hb0 hx.1
      exact ⟨by omega, by show (j : Int) < (A.length : Int); omega⟩
    · obtain ⟨j, rfl, hji⟩ := hb0 hx.1
      exact hCp j (by omega)
    · have hx : (((followV p l (A.getD i [])).2.2 == 0) && (decide (bst < 0) || decide (ref04u_Cost (p, A.getD i []) < ref04u_Cost (p, A.getD (Int.toNat bst) [])))) = true := hx
      rw [Bool.and_eq_true] at hx
      rw [hsh]
      exact eq_of_beq hx.1
    · intro k hk hsk
      have hx : (((followV p l (A.getD i [])).2.2 == 0) && (decide (bst < 0) || decide (ref04u_Cost (p, A.getD i []) < ref04u_Cost (p, A.getD (Int.toNat bst) [])))) = true := hx
      rw [Bool.and_eq_true, Bool.or_eq_true] at hx
      by_cases hki : k = i
      · subst hki; exact Int.le_refl _
      · rcases hb with ⟨rfl, hn⟩ | ⟨j, rfl, hji, hsj, hmin, _⟩
        · exact absurd hsk (hn k (by omega))
        · rcases hx.2 with hx2 | hx2
          · have := of_decide_eq_true hx2; omega
          · have hx2 : ref04u_Cost (p, A.getD i []) < ref04u_Cost (p, A.getD j []) := of_decide_eq_true hx2
            rw [gc i, gc j] at hx2
            have := hmin k (by omega) hsk
            omega
    · intro k hk hsk
      have hx : (((followV p l (A.getD i [])).2.2 == 0) && (decide (bst < 0) || decide (ref04u_Cost (p, A.getD i []) < ref04u_Cost (p, A.getD (Int.toNat bst) [])))) = true := hx
      rw [Bool.and_eq_true, Bool.or_eq_true] at hx
      rcases hb with ⟨rfl, hn⟩ | ⟨j, rfl, hji, hsj, hmin, _⟩
      · exact absurd hsk (hn k hk)
      · rcases hx.2 with hx2 | hx2
        · have := of_decide_eq_true hx2; omega
        · have hx2 : ref04u_Cost (p, A.getD i []) < ref04u_Cost (p, A.getD j []) := of_decide_eq_true hx2
          rw [gc i, gc j] at hx2
          have := hmin k hk hsk
          omega
    · have hx : (((followV p l (A.getD i [])).2.2 == 0) && (decide (bst < 0) || decide (ref04u_Cost (p, A.getD i []) < ref04u_Cost (p, A.getD (Int.toNat bst) [])))) = false := hx
      rw [Bool.and_eq_false_iff, Bool.or_eq_false_iff] at hx
      have hshi : ∀ hsk : sh i, ((followV p l (A.getD i [])).2.2 == 0) = true := fun hsk => by
        rw [hsh] at hsk
        have hsk : (followV p l (A.getD i [])).2.2 = 0 := hsk
        rw [hsk]; rfl
      rcases hb with ⟨rfl, hn⟩ | ⟨j, rfl, hji, hsj, hmin, hfst⟩
      · refine .inl ⟨rfl, fun k hk hsk => ?_⟩
        by_cases hki : k = i
        · subst hki
          rcases hx with hx | hx
          · rw [hshi hsk] at hx; cases hx
          · cases hx.1
        · exact hn k (by omega) hsk
      · refine .inr ⟨j, rfl, by omega, hsj, fun k hk hsk => ?_, hfst⟩
        by_cases hki : k = i
        · subst hki
          rcases hx with hx | hx
          · rw [hshi hsk] at hx; cases hx
          · have hx2 : ¬ ref04u_Cost (p, A.getD k []) < ref04u_Cost (p, A.getD j []) := of_decide_eq_false hx.2
            rw [gc k, gc j] at hx2
            omega
        · exact hmin k (by omega) hsk
  · have h : ¬ (i : Int) < (A.length : Int) := of_decide_eq_false h
    have hiA : i = A.length := by omega
    subst hiA
    have hall := best_all hp hl
    have find : ∀ q, fits p l (List.replicate p.1.length 0) q → ∃ k, k < A.length ∧ A.getD k [] = q := by
      intro q hq
      have hm : q ∈ A := by rw [hA]; exact (plansFrom_iff _ _).2 ⟨q, rfl, fits_len hq, fits_in hq⟩
      obtain ⟨k, hk⟩ := List.getElem?_of_mem hm
      exact ⟨k, (List.getElem?_eq_some_iff.1 hk).1, by simp [List.getD, hk]⟩
    refine ⟨fun hx => ?_, fun hx => ?_⟩
    · have hx : bst < 0 := of_decide_eq_true hx
      rcases hb with ⟨rfl, hn⟩ | ⟨j, rfl, _⟩
      · show (([] : List Int), (0 : Int), (4 : Int)) = planOut p l
        rcases hall with ⟨h1, _⟩ | ⟨P, h1, h2, _⟩
        · exact h1.symm
        · obtain ⟨k, hk, hkp⟩ := find _ h2
          exact absurd (by rw [hsh]; show (followV p l (A.getD k [])).2.2 = 0; rw [hkp, (follow_all hp hl P).1 h2]) (hn k hk)
      · omega
    · have hx : ¬ bst < 0 := of_decide_eq_false hx
      rcases hb with ⟨rfl, _⟩ | ⟨j, rfl, hji, hsj, hmin, hfst⟩
      · omega
      have r : 0 ≤ (j : Int) ∧ (j : Int) < (A.length : Int) := ⟨by omega, by omega⟩
      refine ⟨r, r, hCp j hji, ?_⟩
      show (A.getD j [], costGo p (-1) (A.getD j []), (0 : Int)) = planOut p l
      have hsj' : (followV p l (A.getD j [])).2.2 = 0 := by rw [hsh] at hsj; exact hsj
      have hfj := (follow_all hp hl _).2 hsj'
      rcases hall with ⟨_, h2⟩ | ⟨P, h1, h2, h3⟩
      · exact absurd hfj (h2 _)
      · obtain ⟨k, hk, hkp⟩ := find _ h2
        have hsk : sh k := by rw [hsh]; show (followV p l (A.getD k [])).2.2 = 0; rw [hkp, (follow_all hp hl P).1 h2]
        obtain ⟨g1, g2⟩ := h3 _ hfj
        have ck : cost k = costGo p (-1) P := by rw [hcost]; show costGo p (-1) (A.getD k []) = _; rw [hkp]
        have cj : cost j = costGo p (-1) (A.getD j []) := by rw [hcost]
        have c1 := hmin k hk hsk
        have hlex := g2 (by omega)
        rw [← hkp] at hlex
        have hjk : j = k := by
          rcases Nat.lt_trichotomy j k with hlt | heq | hgt
          · have hs := plans_sorted (n := p.1.length) l.length []
            rw [← hA] at hs
            have := List.pairwise_iff_getElem.1 hs j k hji hk hlt
            rw [show A.getD k [] = A[k] from by simp [List.getD, hk], show A.getD j [] = A[j] from by simp [List.getD, hji]] at hlex
            exact absurd hlex (llt_not this)
          · exact heq
          · have := hfst k hgt hsk
            omega
        subst hjk
        rw [h1, hkp]
theorem planOut_len {p : Press} {l : List Draw} : (planOut p l).1.length ≤ 8 := by
  cases hp : pressB p with
  | false => rw [planOut, hp]; simp
  | true =>
    cases hl : drawsB l with
    | false => rw [planOut, hp, hl]; simp
    | true =>
      have := (draws_iff.1 hl).len
      rcases best_all hp hl with ⟨e, _⟩ | ⟨P, e, hf, _⟩
      · rw [e]; simp
      · rw [e]; show P.length ≤ 8; rw [fits_len hf]; exact this
theorem v4 (x : Press × List Draw) (_ : k4.pre x) : V4 x := by
  obtain ⟨p, l⟩ := x
  refine ⟨trivial, fun _ => ⟨trivial, rfl⟩, fun h => ?_⟩
  have h : (((decide ((5 : Int) < (l.length : Int)) && decide ((l.length : Int) ≤ 8)) || decide (12 < (l.length : Int))) || decide (8 < (p.1.length : Int))) = false := h
  simp only [Bool.or_eq_false_iff, decide_eq_false_iff_not] at h
  refine ⟨trivial, ⟨by show p.1.length ≤ big; simp only [big]; omega, by show l.length ≤ big; simp only [big]; omega⟩, ?_, fun _ => trivial, ?_⟩
  · show (planOut p l).1.length ≤ big
    have := planOut_len (p := p) (l := l)
    simp only [big]; omega
  · refine bool_ext ?_
    simp only [law04u_DiePlans, law04u_awake, die_Plan, ref04u_Plan, ref04u_Ints, beq_self_eq_true, decide_true, Bool.and_self]
end Go.Die
