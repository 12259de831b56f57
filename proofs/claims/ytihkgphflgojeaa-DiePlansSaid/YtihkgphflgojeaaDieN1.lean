/-
  Chapter 4: the law DiePlans: the document's own search finds the best plan.
-/
import Derived.Test.YtihkgphflgojeaaDieV1
set_option linter.all false


set_option maxRecDepth 100000
namespace Go.Die
open Go Go.Sx

def llt : List Int → List Int → Prop
  | a :: p, b :: q => a < b ∨ (a = b ∧ llt p q)
  | _, _ => False
theorem llt_app {p q : List Int} (h : llt p q) : ∀ b : List Int, llt (b ++ p) (b ++ q)
  | [] => h
  | _ :: b => .inr ⟨rfl, llt_app h b⟩
theorem llt_not : ∀ {p q : List Int}, llt p q → ¬ lexle q p
  | a :: p, b :: q, h, h' => by
    rcases h with h | ⟨rfl, h⟩
    · rcases h' with h' | ⟨rfl, _⟩
      · omega
      · omega
    · rcases h' with h' | ⟨_, h'⟩
      · omega
      · exact llt_not h h'
  | [], [], h, _ => h
  | [], _ :: _, h, _ => h
  | _ :: _, [], h, _ => h
/-- Which plans there are. -/
theorem plansFrom_iff {n : Nat} {p : List Int} : ∀ (f : Nat) (b : List Int), p ∈ plansFrom n f b ↔ ∃ r, p = b ++ r ∧ r.length = f ∧ ∀ k ∈ r, 0 ≤ k ∧ k < (n : Int)
  | 0, b => by
    simp only [plansFrom, List.mem_singleton]
    constructor
    · rintro rfl
      exact ⟨[], by simp, rfl, fun t ht => (by cases ht)⟩
    · rintro ⟨r, rfl, hr, _⟩
      rw [List.eq_nil_of_length_eq_zero hr, List.append_nil]
  | f + 1, b => by
    simp only [plansFrom, List.mem_flatMap, List.mem_range]
    constructor
    · rintro ⟨k, hk, hp⟩
      obtain ⟨r, rfl, hr, h1⟩ := (plansFrom_iff f _).1 hp
      refine ⟨(k : Int) :: r, by simp, by simp [hr], fun t ht => ?_⟩
      rcases List.mem_cons.1 ht with rfl | ht
      · omega
      · exact h1 t ht
    · rintro ⟨r, rfl, hr, h1⟩
      cases r with
      | nil => cases hr
      | cons t r =>
        have g := h1 _ List.mem_cons_self
        obtain ⟨k, rfl⟩ : ∃ k : Nat, t = (k : Int) := ⟨t.toNat, by omega⟩
        exact ⟨k, by omega, (plansFrom_iff f _).2 ⟨r, by simp, by simpa using hr, fun u hu => h1 u (List.mem_cons_of_mem _ hu)⟩⟩
theorem plans_sorted {n : Nat} : ∀ (f : Nat) (b : List Int), (plansFrom n f b).Pairwise llt
  | 0, b => List.pairwise_singleton _ _
  | f + 1, b => by
    simp only [plansFrom]
    rw [List.pairwise_flatMap]
    refine ⟨fun k _ => plans_sorted f _, (List.pairwise_lt_range (n := n)).imp fun {k k'} hk p hp q hq => ?_⟩
    obtain ⟨r, rfl, _⟩ := (plansFrom_iff f _).1 hp
    obtain ⟨r', rfl, _⟩ := (plansFrom_iff f _).1 hq
    rw [List.append_assoc, List.append_assoc]
    exact llt_app (show llt ((k : Int) :: r) ((k' : Int) :: r') from Or.inl (by omega)) b
theorem flatMap_len {α β : Type} (g : α → List β) (c : Nat) : ∀ l : List α, (∀ a ∈ l, (g a).length ≤ c) → (l.flatMap g).length ≤ l.length * c
  | [], _ => by simp
  | a :: l, h => by
    have h1 := h a List.mem_cons_self
    have h2 := flatMap_len g c l fun x hx => h x (List.mem_cons_of_mem _ hx)
    rw [List.flatMap_cons, List.length_append, List.length_cons, Nat.add_mul, Nat.one_mul]
    omega
theorem plans_len {n : Nat} (hn : n ≤ 4) : ∀ (f : Nat) (b : List Int), (plansFrom n f b).length ≤ 4 ^ f
  | 0, b => by simp [plansFrom]
  | f + 1, b => by
    have h2 := flatMap_len (fun (k : Nat) => plansFrom n f (b ++ [(k : Int)])) (4 ^ f) (List.range n) fun k _ => plans_len hn f _
    rw [List.length_range] at h2
    have h3 : n * 4 ^ f ≤ 4 * 4 ^ f := Nat.mul_le_mul_right _ hn
    have h4 := Nat.pow_succ 4 f
    simp only [plansFrom]
    omega
theorem v45 (x : Int × Int × (List Int) × List (List Int)) (hp : k45.pre x) : V45 x := by
  obtain ⟨many, dies, b, out⟩ := x
  obtain ⟨h1, h2, h3, h4, h5, h6⟩ : 0 ≤ many ∧ many ≤ 8 ∧ 0 ≤ dies ∧ dies ≤ 4 ∧ (b.length : Int) ≤ many ∧ out.length + 4 ^ (many.toNat - b.length) ≤ 1000000 := hp
  obtain ⟨n, rfl⟩ : ∃ n : Nat, many = (n : Int) := ⟨many.toNat, by omega⟩
  obtain ⟨m, rfl⟩ : ∃ n : Nat, dies = (n : Int) := ⟨dies.toNat, by omega⟩
  have h6 : out.length + 4 ^ (n - b.length) ≤ 1000000 := h6
  refine ⟨fun h => ?_, fun h => ?_⟩
  · have h : ((b.length : Int) == (n : Int)) = true := h
    have h := eq_of_beq h
    have e : n - b.length = 0 := by omega
    rw [e] at h6
    refine ⟨roomy_of (by omega) (by omega) ?_, ?_⟩
    · show ((out ++ ((List.replicate 1 []).set 0 b)).length : Int) ≤ _
      rw [List.length_append, List.length_set, List.length_replicate]
      omega
    · show out ++ [b] = out ++ plansFrom m (n - b.length) b
      rw [e]; rfl
  have h : ((b.length : Int) == (n : Int)) = false := h
  have hne : ¬ b.length = n := by
    intro e
    rw [e] at h; simp at h
  obtain ⟨f, hf⟩ : ∃ f, n - b.length = f + 1 := ⟨n - b.length - 1, by omega⟩
  obtain ⟨ch, hch⟩ : ∃ ch : Nat → List (List Int), ch = fun (k : Nat) => plansFrom m f (b ++ [(k : Int)]) := ⟨_, rfl⟩
  have hval : ref04u_plans ((n : Int), (m : Int), b, out) = out ++ (List.range m).flatMap ch := by
    show out ++ plansFrom m (n - b.length) b = _
    rw [hf, hch]; rfl
  have c4 := Nat.pow_succ 4 f
  rw [hf, c4] at h6
  have hchl : ∀ h, (ch h).length ≤ 4 ^ f := by
    intro h
    rw [hch]
    exact plans_len (by omega) f _
  have hfl : ∀ i, ((List.range i).flatMap ch).length ≤ i * 4 ^ f := fun i => by
    have := flatMap_len ch (4 ^ f) (List.range i) fun h _ => hchl h
    rw [List.length_range] at this
    exact this
  refine ⟨fun s => ∃ i : Nat, s.2 = (i : Int) ∧ i ≤ m ∧ s.1 = out ++ (List.range i).flatMap ch, fun s => ((m : Int) - s.2).toNat, ⟨0, rfl, Nat.zero_le _, by show out = out ++ []; rw [List.append_nil]⟩, ?_⟩
  rintro ⟨o, i0⟩ ⟨i, hi, hil, ho⟩
  simp only at hi ho
  subst hi ho
  refine ⟨fun h => ?_, fun h => ?_⟩
  · have h : (i : Int) < (m : Int) := of_decide_eq_true h
    have hli := hfl i
    have hi3 : i * 4 ^ f ≤ 3 * 4 ^ f := Nat.mul_le_mul_right _ (by omega)
    have hfb : n - (b ++ [(i : Int)]).length = f := by rw [List.length_append, List.length_singleton]; omega
    refine ⟨roomy_of (by omega) (by omega) ?_, roomy_of (by omega) (by omega) ?_, ⟨⟨⟨h1, h2, h3, h4, ?_, ?_⟩, ?_⟩, trivial, trivial⟩, by simp only [Z.in64]; omega, ⟨i + 1, by show (i : Int) + 1 = ((i + 1 : Nat) : Int); omega, by omega, ?_⟩, ?_⟩
    · show ((List.replicate 0 (0 : Int) ++ b).length : Int) ≤ _
      rw [List.length_append, List.length_replicate]; omega
    · show ((List.replicate 0 (0 : Int) ++ b ++ ((List.replicate 1 (0 : Int)).set 0 (i : Int))).length : Int) ≤ _
      rw [List.length_append, List.length_append, List.length_set, List.length_replicate, List.length_replicate]; omega
    · show ((b ++ [(i : Int)]).length : Int) ≤ (n : Int)
      rw [List.length_append, List.length_singleton]; omega
    · show (out ++ (List.range i).flatMap ch).length + 4 ^ (n - (b ++ [(i : Int)]).length) ≤ 1000000
      rw [hfb, List.length_append]
      omega
    · show n - (b ++ [(i : Int)]).length < n - b.length
      rw [hfb]; omega
    · show (out ++ (List.range i).flatMap ch) ++ plansFrom m (n - (b ++ [(i : Int)]).length) (b ++ [(i : Int)]) = _
      rw [hfb, List.append_assoc, List.range_succ, List.flatMap_append, hch]
      simp only [List.flatMap_cons, List.flatMap_nil, List.append_nil]
    · show ((m : Int) - ((i : Int) + 1)).toNat < ((m : Int) - (i : Int)).toNat; omega
  · have h : ¬ (i : Int) < (m : Int) := of_decide_eq_false h
    have : i = m := by omega
    subst this
    exact hval.symm
end Go.Die
