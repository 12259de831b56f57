/-
  Chapter 12: FadeClash.
-/
import Derived.Test.YtjnnbmgodbhofaaFadeP5
set_option linter.all false
set_option maxRecDepth 1000000
namespace Go.Fade
open Go Go.Sx
theorem clashGo_spec : ∀ (l : List Rule) (b : Bds) (i : Int), (clashGo b l i = (0, 4) ∧ (enterL b l).isSome = true) ∨ ∃ n : Nat, n < l.length ∧ clashGo b l i = (i + (n : Int), 0) ∧ (enterL b (l.take n)).isSome = true ∧ enterL b (l.take (n + 1)) = none ∧ enterL b l = none
 | [], b, i => .inl ⟨rfl, rfl⟩
 | r :: l, b, i => by
  cases h : okR b r with
  | false =>
   refine .inr ⟨0, Nat.succ_pos _, ?_, rfl, ?_, ?_⟩
   ·rw [clashGo, h]; simp
   ·simp only [List.take_succ_cons, List.take_zero, enterL, h, cond_false]
   ·rw [enterL, h]; rfl
  | true =>
   rcases clashGo_spec l (putR b r) (i + 1) with ⟨h1, h2⟩ | ⟨n, h1, h2, h3, h4, h5⟩
   ·exact .inl ⟨by rw [clashGo, h]; exact h1, by rw [enterL, h]; exact h2⟩
   ·refine .inr ⟨n + 1, by simpa using h1, ?_, ?_, ?_, ?_⟩
    ·rw [clashGo, h, cond_true, h2]
     simp only [Prod.mk.injEq, and_true]
     omega
    ·rw [List.take_succ_cons, enterL, h]; exact h3
    ·rw [List.take_succ_cons, enterL, h]; exact h4
    ·rw [enterL, h]; exact h5
theorem clashGo_append {l' : List Rule} : ∀ (l : List Rule) (b b' : Bds) (i : Int), enterL b l = some b' → clashGo b (l ++ l') i = clashGo b' l' (i + (l.length : Int))
 | [], b, b', i, h => by cases h; simp
 | r :: l, b, b', i, h => by
  rw [enterL, Bool.cond_eq_ite] at h
  split at h
  ·rename_i hok
   rw [List.cons_append, clashGo, hok, cond_true, clashGo_append l _ _ _ h]
   congr 1
   simp only [List.length_cons]
   omega
  ·cases h
theorem entered {S : Nat → Prop} : ∀ {l : List Rule} {b b' : Bds}, Inv S b → (∀ r ∈ l, Among S r) → enterL b l = some b' → ∀ (a c : Nat) (w : Int), ((a : Int), (c : Int), w) ∈ l → gt b' a c ≤ w
 | [], _, _, _, _, _, _, _, _, hm => by cases hm
 | r :: l, b, b', h, hl, he, a, c, w, hm => by
  rw [enterL, Bool.cond_eq_ite] at he
  split at he
  ·rename_i hok
   obtain ⟨a', c', e, ha, hc, _⟩ := hl r List.mem_cons_self
   have hI : Inv S (putR b r) := by rw [e] at hok ⊢; exact (put_in h ha hc (okR_iff.1 hok)).1
   have hl' : ∀ r ∈ l, Among S r := fun r hr => hl r (List.mem_cons_of_mem _ hr)
   rcases List.mem_cons.1 hm with hm | hm
   ·rw [← hm] at e hok
    have e1 : a = a' := by have := congrArg (·.1) e; simp only at this; omega
    have e2 : c = c' := by have := congrArg (·.2.1) e; simp only at this; omega
    subst e1 e2
    have h1 := put_le h ha hc (okR_iff.1 hok)
    rw [hm] at h1
    exact Int.le_trans (((enter_in hI hl').2 b' he).2 a c ha hc) h1
   ·exact entered hI hl' he a c w hm
  ·cases he
theorem light_cards {f : Fading} (h : cardsB f = false) (m : Int) : (lightV f m).2 = 1 := by
 have : openV f (inB m 0 (f.1.length : Int)) = (none, 1) := by rw [openV, h]; rfl
 rw [lightV]
 rw [this]; rfl
theorem light0 {f : Fading} (h : cardsB f = true) : (lightV f 0).2 = match enterL noBounds (allL f) with
  | none => 6
  | some _ => 0 := by
 have hv : inB 0 0 (f.1.length : Int) = true := by rw [inB_iff]; omega
 have : openV f (inB 0 0 (f.1.length : Int)) = match enterL noBounds (allL f) with
  | none => (none, 6)
  | some b => (some b, 0) := by rw [openV, h, hv]; rfl
 rw [lightV]
 rw [this]
 cases enterL noBounds (allL f) <;> rfl
theorem cards_take {f : Fading} (h : cardsB f = true) (n : Nat) : cardsB (f.1, f.2.1, f.2.2.1, f.2.2.2.take n) = true := by
 have O := cards_iff.1 h
 refine cards_iff.2 ⟨O.nm, O.nr, O.ns, ?_, O.months, O.refs, fun c hc => O.checks c (List.mem_of_mem_take hc)⟩
 have := O.nc
 show (f.2.2.2.take n).length ≤ 40
 rw [List.length_take]
 omega
theorem cards_app {f : Fading} (h : cardsB f = true) {c c' : Check} (hc : c ∈ f.2.2.2) (e : c'.1 = c.1 ∧ c'.2.1 = c.2.1 ∧ c'.2.2.1 = c.2.2.1) (hn : f.2.2.2.length < 40) : cardsB (f.1, f.2.1, f.2.2.1, f.2.2.2 ++ [c']) = true := by
 have O := cards_iff.1 h
 refine cards_iff.2 ⟨O.nm, O.nr, O.ns, ?_, O.months, O.refs, fun d hd => ?_⟩
 ·show (f.2.2.2 ++ [c']).length ≤ 40
  rw [List.length_append]
  simp only [List.length_cons, List.length_nil]
  omega
 ·rcases List.mem_append.1 hd with hd | hd
  ·exact O.checks d hd
  ·rw [List.mem_singleton.1 hd, e.1, e.2.1, e.2.2]
   exact O.checks c hc
theorem first_val {f : Fading} (h : cardsB f = true) (n : Nat) : law12u_FadeClash_1 ((n : Int), f) = match (enterL noBounds (riseL f)).bind (fun b => enterL b ((checksL f).take n)) with
  | none => 6
  | some _ => 0 := by
 have := light0 (cards_take h n)
 show (lightV (f.1, f.2.1, f.2.2.1, f.2.2.2.take n) 0).2 = _
 rw [this]
 have e : allL (f.1, f.2.1, f.2.2.1, f.2.2.2.take n) = riseL f ++ (checksL f).take n := by
  show riseL f ++ (f.2.2.2.take n).map ruleOf = _
  rw [List.map_take]; rfl
 rw [e, enterL_append]
theorem against {f : Fading} (h : OkC f) {b b' : Bds} (hI : Inv (known f) b) (he : enterL b (checksL f) = some b') {c : Check} (hc : c ∈ f.2.2.2) : okR b' (ruleOf (c.1, c.2.1, c.2.2.1, !c.2.2.2)) = false := by
 obtain ⟨p, e1, h1, _⟩ := of_known h (h.checks c hc).2
 obtain ⟨m, e2, h2, _⟩ := month_known h (h.checks c hc).1
 have hmem : ruleOf c ∈ checksL f := List.mem_map_of_mem hc
 have key := entered hI (checks_among h) he
 cases hf : c.2.2.2 with
 | true =>
  have er : ruleOf c = ((p : Int), (m : Int), 0) := by rw [ruleOf, hf, cond_true, e1, e2]
  have hle := key p m 0 (er ▸ hmem)
  have er' : ruleOf (c.1, c.2.1, c.2.2.1, !true) = ((m : Int), (p : Int), -1) := by
   rw [ruleOf]
   simp only [Bool.not_true, cond_false]
   rw [e1, e2]
  rw [er']
  cases ho : okR b' ((m : Int), (p : Int), -1) with
  | false => rfl
  | true => have := okR_iff.1 ho; omega
 | false =>
  have er : ruleOf c = ((m : Int), (p : Int), -1) := by rw [ruleOf, hf, cond_false, e1, e2]
  have hle := key m p (-1) (er ▸ hmem)
  have er' : ruleOf (c.1, c.2.1, c.2.2.1, !false) = ((p : Int), (m : Int), 0) := by
   rw [ruleOf]
   simp only [Bool.not_false, cond_true]
   rw [e1, e2]
  rw [er']
  cases ho : okR b' ((p : Int), (m : Int), 0) with
  | false => rfl
  | true => have := okR_iff.1 ho; omega
theorem v9 (x : Fading × Int) (hp : k9.pre x) : V9 x := by
 obtain ⟨f, which⟩ := x
 obtain ⟨hw1, hw2⟩ : 0 ≤ which ∧ which ≤ 255 := hp
 have eV : law12u_FadeClash (f, which) = true := rfl
 rw [V9, eV]
 refine ⟨trivial, fun _ => ⟨trivial, rfl⟩, fun hg => ?_⟩
 have hg : (greatB f || decide ((40 : Int) ≤ (f.2.2.2.length : Int))) = false := hg
 rw [Bool.or_eq_false_iff, decide_eq_false_iff_not] at hg
 obtain ⟨hg, hn⟩ := hg
 obtain ⟨g1, g2, g3⟩ := great_of hg
 have hn : f.2.2.2.length < 40 := by omega
 have hs : sizeP f := ⟨by simp only [big]; omega, by simp only [big]; omega, by simp only [big]; omega⟩
 obtain ⟨C, hC⟩ : ∃ C, C = fade_Clash f := ⟨_, rfl⟩
 obtain ⟨L, hL⟩ : ∃ L, L = fade_Light (f, 0) := ⟨_, rfl⟩
 dsimp only
 rw [← hC, ← hL]
 refine ⟨hs, hs, fun _ => hs, ?_⟩
 cases hc : cardsB f with
 | false =>
  have eC : C = (0, 1) := by
   rw [hC]; show clashV f = _
   rw [clashV, hc]; rfl
  have eL : L.2 = 1 := by rw [hL]; exact light_cards hc 0
  rw [eC, eL]
  refine ⟨fun _ => ⟨fun _ => trivial, rfl⟩, fun h => ?_⟩
  exact absurd h (by
   show ¬ ((true || _) = false)
   rw [Bool.true_or]; decide)
 | true =>
  have O := cards_iff.1 hc
  have eCards : ref12u_Cards f = true := hc
  rw [eCards]
  have eL : L.2 = match enterL noBounds (allL f) with
   | none => 6
   | some _ => 0 := by rw [hL]; exact light0 hc
  have eC : C = match enterL noBounds (riseL f) with
   | none => (0, 6)
   | some b => clashGo b (checksL f) 0 := by
   rw [hC]; show clashV f = _
   rw [clashV, hc]; rfl
  rw [allL, enterL_append] at eL
  have eF := first_val hc
  cases hr : enterL noBounds (riseL f) with
  | none =>
   rw [hr] at eL eC
   have eL : L.2 = 6 := eL
   have eC : C = (0, 6) := eC
   have f0 : law12u_FadeClash_1 ((0 : Int), f) = 6 := by
    have := eF 0
    rw [hr] at this
    exact this
   rw [eC, eL, f0]
   refine ⟨fun h => absurd h (by decide), fun _ => ⟨fun h => absurd h (by decide), fun _ => ⟨fun _ => ⟨⟨hs, by omega, by show (0 : Int) ≤ _; omega⟩, fun _ => trivial, rfl⟩, fun h => absurd h (by decide)⟩⟩⟩
  | some b =>
   rw [hr] at eL eC
   have hI := (rise_in O).2 b hr
   have eF : ∀ n : Nat, law12u_FadeClash_1 ((n : Int), f) = match enterL b ((checksL f).take n) with
    | none => 6
    | some _ => 0 := fun n => by
    have := eF n
    rw [hr] at this
    exact this
   have eC : C = clashGo b (checksL f) 0 := eC
   rcases clashGo_spec (checksL f) b 0 with ⟨q1, q2⟩ | ⟨n, q1, q2, q3, q4, q5⟩
   ·-- all fit
    obtain ⟨b', hb'⟩ := Option.isSome_iff_exists.1 q2
    rw [q1] at eC
    have eL : L.2 = 0 := by
     rw [eL]
     show (match enterL b (checksL f) with | none => (6 : Int) | some _ => 0) = 0
     rw [hb']
    rw [eC, eL]
    refine ⟨fun h => absurd h (by decide), fun _ => ⟨fun h => absurd h (by decide), fun _ => ⟨fun h => absurd h (by decide), fun _ => ⟨fun h => absurd h (by decide), fun _ => ⟨fun _ => ⟨trivial, rfl⟩, fun hne => ?_⟩⟩⟩⟩⟩
    have hlen : (f.2.2.2.length : Int) ≠ 0 := by simpa using hne
    have t1 := Int.tmod_nonneg (f.2.2.2.length : Int) hw1
    have t2 := Int.tmod_lt_of_pos which (show (0 : Int) < (f.2.2.2.length : Int) by omega)
    obtain ⟨c, hcd⟩ : ∃ c, c = f.2.2.2.getD (Int.toNat (Int.tmod which (f.2.2.2.length : Int))) (0, 0, 0, false) := ⟨_, rfl⟩
    have hmem : c ∈ f.2.2.2 := by rw [hcd]; exact getD_mem' f.2.2.2 _ _ t1 t2
    rw [← hcd]
    have ecl : fade_Clash (f.1, f.2.1, f.2.2.1, (List.replicate 0 (0, 0, 0, false) ++ f.2.2.2) ++ (List.replicate 1 (0, 0, 0, false)).set 0 (c.1, c.2.1, c.2.2.1, !c.2.2.2)) = ((f.2.2.2.length : Int), 0) := by
     show clashV (f.1, f.2.1, f.2.2.1, f.2.2.2 ++ [(c.1, c.2.1, c.2.2.1, !c.2.2.2)]) = _
     rw [clashV, cards_app (c' := (c.1, c.2.1, c.2.2.1, !c.2.2.2)) hc hmem ⟨rfl, rfl, rfl⟩ hn]
     show (match enterL noBounds (riseL f) with | none => ((0 : Int), (6 : Int)) | some b => clashGo b ((f.2.2.2 ++ [(c.1, c.2.1, c.2.2.1, !c.2.2.2)]).map ruleOf) 0) = _
     rw [hr]
     show clashGo b ((f.2.2.2 ++ [(c.1, c.2.1, c.2.2.1, !c.2.2.2)]).map ruleOf) 0 = _
     rw [List.map_append, clashGo_append (f.2.2.2.map ruleOf) b b' 0 hb', List.map_cons, clashGo, against O hI hb' hmem, cond_false, List.length_map]
     simp
    rw [ecl]
    refine ⟨hlen, ⟨t1, t2⟩, roomy_of (by omega) (by omega) ?_, roomy_of (by omega) (by omega) ?_, ⟨hs.1, hs.2.1, ?_⟩, fun _ => trivial, ?_⟩
    ·show (f.2.2.2.length : Int) ≤ _; omega
    ·show ((f.2.2.2 ++ [_]).length : Int) ≤ _
     rw [List.length_append]; simp only [List.length_cons, List.length_nil]; omega
    ·show (f.2.2.2 ++ [_]).length ≤ big
     rw [List.length_append]; simp only [List.length_cons, List.length_nil, big]; omega
    ·show ((((f.2.2.2.length : Int) == (f.2.2.2.length : Int)) && ((0 : Int) == 0)) && true) = true
     simp
   ·-- one clashes
    have hnl : n < f.2.2.2.length := by rw [checksL, List.length_map] at q1; exact q1
    rw [q2] at eC
    have eC : C = ((n : Int), 0) := by rw [eC]; simp
    have eL : L.2 = 6 := by
     rw [eL]
     show (match enterL b (checksL f) with | none => (6 : Int) | some _ => 0) = 6
     rw [q5]
    obtain ⟨b', hb'⟩ := Option.isSome_iff_exists.1 q3
    have f1 : law12u_FadeClash_1 ((n : Int), f) = 0 := by rw [eF n, hb']
    have f2 : law12u_FadeClash_1 ((n : Int) + 1, f) = 6 := by
     have := eF (n + 1)
     rw [q4] at this
     have e : ((n + 1 : Nat) : Int) = (n : Int) + 1 := by omega
     rw [e] at this
     exact this
    rw [eC, eL]
    dsimp only
    rw [f1, f2]
    have d1 : decide ((0 : Int) ≤ (n : Int)) = true := decide_eq_true (by omega)
    have d2 : decide ((n : Int) < (f.2.2.2.length : Int)) = true := decide_eq_true (by omega)
    refine ⟨fun h => absurd h (by decide), fun _ => ⟨fun h => absurd h (by simp), fun _ => ⟨fun h => absurd h (by decide), fun _ => ⟨fun _ => ⟨fun _ => ⟨hs, by omega, by show (n : Int) ≤ (f.2.2.2.length : Int); omega⟩, fun _ => ?_, fun _ => ⟨hs, by omega, by show (n : Int) + 1 ≤ (f.2.2.2.length : Int); omega⟩, fun _ => trivial, ?_⟩, fun h => absurd h (by decide)⟩⟩⟩⟩
    ·simp only [Z.in64]; omega
    ·rw [d1, d2]; rfl
end Go.Fade
