/-
  Chapter 8: in whichever order the colours are listed, the least cost is the same; the law HueMore.
-/
import Derived.Test.YtlkegffejcndbaaHueB5
import Derived.Test.YtlkegffejcndbaaHueE2
set_option linter.all false


set_option maxRecDepth 100000
namespace Go.Hue
open Go Go.Sx

/-- Two plans, each of its own colours, that run the same. -/
structure Alike (l : List Hue) (p : List Turn) (l' : List Hue) (q : List Turn) : Prop where
  len : p.length = q.length
  hue : ∀ i, i < p.length → hueAt l p i = hueAt l' q i
  wash : ∀ j, (p.getD j (0, 0)).2 = (q.getD j (0, 0)).2
theorem wsum_same {p q : List Turn} (h : ∀ j, (p.getD j (0, 0)).2 = (q.getD j (0, 0)).2) : ∀ (k a : Nat), wsum p a k = wsum q a k
  | 0, _ => rfl
  | k + 1, a => by simp only [wsum]; rw [h (a + 1), wsum_same h k (a + 1)]
section
variable {m : Mill} {l l' : List Hue} {p q : List Turn}
theorem Alike.stv (A : Alike l p l' q) {d : Hue → Int} {r w : Int} {k i : Nat} (hk : k < p.length) : stv d r w l p k i = stv d r w l' q k i := by
  unfold Hue.stv
  rw [A.hue k hk, wsum_same A.wash]
theorem Alike.inS (A : Alike l p l' q) {i : Nat} (hi : i < p.length) : inS m l p i = inS m l' q i :=
  Prod.ext (great_congr _ _ 0 i fun k hk => A.stv (d := dLo) (by omega)) (great_congr _ _ 0 i fun k hk => A.stv (d := dHi) (by omega))
theorem Alike.showAt (A : Alike l p l' q) {i : Nat} (hi : i < p.length) : (0 ≤ showAt m l p i ↔ 0 ≤ showAt m l' q i) := by
  rw [showAt_iff, showAt_iff, A.hue i hi]
  constructor
  · rintro ⟨k, hk, h⟩
    exact ⟨k, hk, by rw [show stHi m l' q k i = stHi m l p k i from (A.stv (d := dHi) (by omega)).symm]; exact h⟩
  · rintro ⟨k, hk, h⟩
    exact ⟨k, hk, by rw [show stHi m l p k i = stHi m l' q k i from A.stv (d := dHi) (by omega)]; exact h⟩
theorem Alike.costGo (A : Alike l p l' q) : ∀ k, k ≤ p.length → costGo m l p k = costGo m l' q k
  | 0, _ => rfl
  | k + 1, hk => by rw [Hue.costGo, Hue.costGo, A.costGo k (by omega), A.inS (by omega), A.wash k]
theorem Alike.shows (A : Alike l p l' q) (hv : validB m l = true) (hv' : validB m l' = true) (hp : planB l p = true) (hq : planB l' q = true) : (showsV m l p).2.2 = 4 ↔ (showsV m l' q).2.2 = 4 := by
  rw [shows_ok hv hp, shows_ok hv' hq, (showGo_iff _ _).1, (showGo_iff _ _).1]
  constructor
  · intro h j h1 h2 h3
    exact h j h1 (by have := A.len; omega) ((A.showAt (by have := A.len; omega)).2 h3)
  · intro h j h1 h2 h3
    exact h j h1 (by have := A.len; omega) ((A.showAt (by omega)).1 h3)
end
/-- Places that are moved round. -/
def rix (n t a : Nat) : Nat := if a + t < n then a + t else a + t - n
def unrix (n t a : Nat) : Nat := if t ≤ a then a - t else a + n - t
theorem mod_rix {n t a : Nat} (ha : a < n) : (a + t) % n = rix n (t % n) a := by
  have h1 := Nat.mod_lt t (show 0 < n by omega)
  rw [Nat.add_mod, Nat.mod_eq_of_lt ha]
  unfold rix
  split
  · rename_i h; exact Nat.mod_eq_of_lt h
  · rename_i h
    rw [Nat.mod_eq_sub_mod (by omega), Nat.mod_eq_of_lt (by omega)]
def moved (f : Nat → Nat) (p : List Turn) : List Turn := p.map fun u => (((f u.1.toNat : Nat) : Int), u.2)
theorem moved_get (f : Nat → Nat) (p : List Turn) {i : Nat} (hi : i < p.length) : (moved f p).getD i (0, 0) = (((f (p.getD i (0, 0)).1.toNat : Nat) : Int), (p.getD i (0, 0)).2) := by
  simp [moved, List.getD, hi]
theorem moved_whole {l l' : List Hue} {p : List Turn} {f : Nat → Nat} (hl : l'.length = l.length) (hf : ∀ a, a < l.length → f a < l.length) (hinj : ∀ a b, a < l.length → b < l.length → f a = f b → a = b) (hp : Whole l p) : Whole l' (moved f p) := by
  have hlen : (moved f p).length = p.length := by rw [moved, List.length_map]
  refine ⟨by rw [hlen, hp.len, hl], fun t ht => ?_, fun i j hij hj => ?_⟩
  · obtain ⟨u, hu, rfl⟩ := List.mem_map.1 ht
    obtain ⟨g1, g2, g3, g4⟩ := hp.turn u hu
    have := hf u.1.toNat (by omega)
    exact ⟨by show (0 : Int) ≤ ((f u.1.toNat : Nat) : Int); omega, by show ((f u.1.toNat : Nat) : Int) < _; rw [hl]; omega, g3, g4⟩
  · rw [hlen] at hj
    rw [moved_get f p (by omega), moved_get f p hj]
    have g1 := hp.turn _ (getD_mem p (0, 0) i (by omega))
    have g2 := hp.turn _ (getD_mem p (0, 0) j hj)
    intro e
    have e : ((f (p.getD i (0, 0)).1.toNat : Nat) : Int) = ((f (p.getD j (0, 0)).1.toNat : Nat) : Int) := e
    have := hinj _ _ (by omega) (by omega) (show f (p.getD i (0, 0)).1.toNat = f (p.getD j (0, 0)).1.toNat by omega)
    exact hp.once i j hij hj (by omega)
theorem moved_alike {l l' : List Hue} {p : List Turn} {f : Nat → Nat} (hp : Whole l p) (hh : ∀ a, a < l.length → l'.getD (f a) ((0, 0), 0, 0) = l.getD a ((0, 0), 0, 0)) : Alike l p l' (moved f p) := by
  refine ⟨by rw [moved, List.length_map], fun i hi => ?_, fun j => ?_⟩
  · have g1 := hp.turn _ (getD_mem p (0, 0) i hi)
    unfold hueAt
    rw [moved_get f p hi]
    exact (hh _ (by omega)).symm
  · by_cases hj : j < p.length
    · rw [moved_get f p hj]
    · simp [moved, List.getD, List.getElem?_eq_none (Nat.le_of_not_lt hj)]
/-- The colours, moved round. -/
def rotL (l : List Hue) (t : Nat) : List Hue := (List.range l.length).map fun i => l.getD ((i + t) % l.length) ((0, 0), 0, 0)
theorem rotL_len (l : List Hue) (t : Nat) : (rotL l t).length = l.length := by rw [rotL, List.length_map, List.length_range]
theorem rotL_get (l : List Hue) (t : Nat) {j : Nat} (hj : j < l.length) : (rotL l t).getD j ((0, 0), 0, 0) = l.getD (rix l.length (t % l.length) j) ((0, 0), 0, 0) := by
  rw [← mod_rix hj]
  exact range_getD _ _ hj
theorem rotL_valid {m : Mill} {l : List Hue} (H : Valid m l) (t : Nat) : Valid m (rotL l t) := by
  refine ⟨by rw [rotL_len]; exact H.len, H.run, H.wash, H.price, fun h hh => ?_⟩
  obtain ⟨i, hi, rfl⟩ := List.mem_map.1 hh
  have hi := List.mem_range.1 hi
  exact H.hue _ (getD_mem l _ _ (Nat.mod_lt _ (by omega)))
/-- **The least cost does not hang on the order of the colours.** -/
theorem rot_best {m : Mill} {l : List Hue} (hv : validB m l = true) (t : Nat) : (bestOut m l).2 = (bestOut m (rotL l t)).2 := by
  have H := valid_iff.1 hv
  have hl6 := H.len
  have H' := rotL_valid H t
  have hv' := valid_iff.2 H'
  have hll := rotL_len l t
  -- there and back
  have there : ∀ p, Whole l p → ∃ q, Whole (rotL l t) q ∧ Alike l p (rotL l t) q := by
    intro p hp
    have ht := fun (h : 0 < l.length) => Nat.mod_lt t h
    refine ⟨moved (unrix l.length (t % l.length)) p, moved_whole hll (fun a ha => ?_) (fun a b ha hb h => ?_) hp, moved_alike hp fun a ha => ?_⟩
    · have := ht (by omega)
      unfold unrix; split <;> omega
    · have := ht (by omega)
      unfold unrix at h; split at h <;> split at h <;> omega
    · have := ht (by omega)
      have h1 : unrix l.length (t % l.length) a < l.length := by unfold unrix; split <;> omega
      rw [rotL_get l t h1]
      have h2 : rix l.length (t % l.length) (unrix l.length (t % l.length) a) = a := by unfold rix unrix; split <;> split <;> omega
      rw [h2]
  have back : ∀ q, Whole (rotL l t) q → ∃ p, Whole l p ∧ Alike (rotL l t) q l p := by
    intro q hq
    have ht := fun (h : 0 < l.length) => Nat.mod_lt t h
    refine ⟨moved (rix l.length (t % l.length)) q, moved_whole hll.symm (fun a ha => ?_) (fun a b ha hb h => ?_) hq, moved_alike hq fun a ha => ?_⟩
    · rw [hll] at ha ⊢
      have := ht (by omega)
      unfold rix; split <;> omega
    · rw [hll] at ha hb
      have := ht (by omega)
      unfold rix at h; split at h <;> split at h <;> omega
    · rw [hll] at ha
      exact (rotL_get l t ha).symm
  have cost : ∀ {l₁ l₂ : List Hue} {p q : List Turn}, Valid m l₁ → Valid m l₂ → Whole l₁ p → Whole l₂ q → Alike l₁ p l₂ q → costD m l₁ p p.length = costD m l₂ q q.length ∧ ((showsV m l₁ p).2.2 = 4 ↔ (showsV m l₂ q).2.2 = 4) := by
    intro l₁ l₂ p q h1 h2 hp hq A
    have e1 := hp.plan h1.len
    have e2 := hq.plan h2.len
    refine ⟨?_, A.shows (valid_iff.2 h1) (valid_iff.2 h2) e1 e2⟩
    rw [← costGo_eq h1 e1, ← costGo_eq h2 e2, A.costGo _ (Nat.le_refl _), A.len]
  have b1 := best_all (m := m) (l := l) hv
  have b2 := best_all (m := m) (l := rotL l t) hv'
  rcases b1 with ⟨h1, h2⟩ | ⟨h1, h2, h3, h4, h5⟩
  · rcases b2 with ⟨g1, g2⟩ | ⟨g1, g2, g3, g4, g5⟩
    · rw [h1, g1]
    · obtain ⟨p, hp, A⟩ := back _ g2
      exact absurd ((cost H' H g2 hp A).2.1 (by rw [g3])) (h2 p hp)
  · rcases b2 with ⟨g1, g2⟩ | ⟨g1, g2, g3, g4, g5⟩
    · obtain ⟨q, hq, A⟩ := there _ h2
      exact absurd ((cost H H' h2 hq A).2.1 (by rw [h3])) (g2 q hq)
    · obtain ⟨q, hq, A⟩ := there _ h2
      obtain ⟨p, hp, A'⟩ := back _ g2
      have c1 := cost H H' h2 hq A
      have c2 := cost H' H g2 hp A'
      have k1 := (g5 q hq (c1.2.1 (by rw [h3]))).1
      have k2 := (h5 p hp (c2.2.1 (by rw [g3]))).1
      refine Prod.ext ?_ (h1.trans g1.symm)
      rw [h4] at k2 ⊢
      rw [g4] at k1 ⊢
      omega
end Go.Hue
