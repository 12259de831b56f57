/-
  Chapter 8: the conditions, proved; first part.
-/
import Derived.Test.YtlkegffejcndbaaHueAuto
import Derived.Test.YtlkegffejcndbaaChecked
set_option linter.all false


set_option maxRecDepth 100000
namespace Go.Hue
open Go Go.Sx

theorem mixed : Go.Proofs.Try.prog.follows .mixedOrders = true := by kernel_rfl
theorem tabs_ok : TabsOk Go.Proofs.Try.prog T := by
  refine ⟨by kernel_rfl, fun p hp => ?_⟩
  simp only [T, List.mem_singleton] at hp
  subst hp
  exact ⟨by kernel_rfl, deep_keyed (by kernel_rfl) (of_decide_eq_true (by kernel_rfl)) (by kernel_rfl) (by kernel_rfl), by kernel_rfl⟩

theorem drop_getD {α : Type} (l : List α) (d : α) (i : Nat) (h : i < l.length) : l.drop i = l.getD i d :: l.drop (i + 1) := by
  rw [List.drop_eq_getElem_cons h]
  simp [List.getD, h]
theorem drop_getD' {α : Type} (l : List α) (d : α) (i : Int) (h0 : 0 ≤ i) (h : i < (l.length : Int)) : l.drop i.toNat = l.getD i.toNat d :: l.drop (i + 1).toNat := by
  have e : (i + 1).toNat = i.toNat + 1 := by omega
  rw [e]
  exact drop_getD l d _ (by omega)
theorem getD_mem {α : Type} (l : List α) (d : α) (i : Nat) (h : i < l.length) : l.getD i d ∈ l := by
  simp [List.getD, h]
theorem getD_mem' {α : Type} (l : List α) (d : α) (i : Int) (h0 : 0 ≤ i) (h : i < (l.length : Int)) : l.getD i.toNat d ∈ l := getD_mem l d _ (by omega)
theorem ixF_any {α : Type} (p : α → Bool) : ∀ (l : List α) (i : Int), 0 ≤ i → (0 ≤ ixF p l i ↔ l.any p = true)
  | [], i, _ => by simp [ixF]
  | a :: l, i, h => by
    simp only [ixF, List.any_cons]
    cases ha : p a with
    | true => simp [h]
    | false => simpa using ixF_any p l (i + 1) (by omega)

/-- IndexFunc's loop. -/
theorem ixF_loop {α : Type} (l : List α) (d : α) (F : Fun α Bool) (hl : l.length ≤ big) (hp : ∀ a ∈ l, F.pre a) :
    Z.LoopP (X := Int) 0 (fun s0 K0 => (((decide ((s0 : Int) < (l.length : Int)) = true) → (((0 : Int) ≤ s0 ∧ (s0 : Int) < (l.length : Int)) ∧ ((F.pre (l.getD (Int.toNat s0) d)) ∧ ((((F.val (l.getD (Int.toNat s0) d)) = true) → ((s0 : Int) = ixF F.val l 0)) ∧ (((F.val (l.getD (Int.toNat s0) d)) = false) → (Z.in64 (s0 + 1) ∧ (K0 (s0 + 1)))))))) ∧ ((decide ((s0 : Int) < (l.length : Int)) = false) → (((-1) : Int) = ixF F.val l 0)))) := by
  refine ⟨fun s => 0 ≤ s ∧ s ≤ (l.length : Int) ∧ ixF F.val l 0 = ixF F.val (l.drop s.toNat) s, fun s => ((l.length : Int) - s).toNat, ⟨by omega, by omega, rfl⟩, ?_⟩
  rintro s ⟨h1, h2, h3⟩
  refine ⟨fun h => ?_, fun h => ?_⟩
  · have h := of_decide_eq_true h
    have e := drop_getD' l d s h1 h
    refine ⟨⟨h1, h⟩, hp _ (getD_mem' l d s h1 h), fun hv => ?_, fun hv => ⟨?_, ⟨?_, ?_, ?_⟩, ?_⟩⟩
    · rw [h3, e, ixF, hv, cond_true]
    · simp only [Z.in64]; simp only [big] at hl; omega
    · omega
    · omega
    · rw [h3, e, ixF, hv, cond_false]
    · simp only; omega
  · have h := of_decide_eq_false h
    have e : l.drop s.toNat = [] := List.drop_eq_nil_of_le (by omega)
    rw [h3, e, ixF]

theorem v40 (x : Int × Int × Int) (_ : k40.pre x) : V40 x := rfl
theorem v41 (x : Int × Int × Int) (_ : k41.pre x) : V41 x := rfl
theorem v50 (x : Span) (_ : k50.pre x) : V50 x := ⟨trivial, fun _ => trivial, rfl⟩
theorem bool_ext {a b : Bool} (h : a = true ↔ b = true) : a = b := by cases a <;> cases b <;> simp_all
theorem v47 (x : Span) (_ : k47.pre x) : V47 x := by
  refine bool_ext ?_
  simp only [ref08u_span, spanB, inB, Bool.and_eq_true, decide_eq_true_eq]
  omega
theorem v49 (x : Hue) (_ : k49.pre x) : V49 x := by
  refine ⟨trivial, fun _ => trivial, ?_⟩
  simp only [hue_isValid_1, hue_isSpan, hueB, Bool.not_and]
theorem v61 (x : (List Hue) × Fun Hue Bool) (h : k61.pre x) : V61 x := ixF_loop x.1 ((0, 0), 0, 0) x.2 h.1 h.2
theorem v62 (x : (List Turn) × Fun Turn Bool) (h : k62.pre x) : V62 x := ixF_loop x.1 (0, 0) x.2 h.1 h.2
theorem v36 (x : (List Int) × Fun Int Bool) (h : k36.pre x) : V36 x := ixF_loop x.1 0 x.2 h.1 h.2
theorem any_ix {α : Type} (p : α → Bool) (l : List α) : decide (0 ≤ ixF p l 0) = l.any p := by
  refine bool_ext ?_
  rw [decide_eq_true_eq]
  exact ixF_any p l 0 (by omega)
theorem v51 (x : (List Hue) × Fun Hue Bool) (h : k51.pre x) : V51 x := ⟨h, any_ix _ _⟩
theorem v53 (x : (List Turn) × Fun Turn Bool) (h : k53.pre x) : V53 x := ⟨h, any_ix _ _⟩
theorem v54 (x : Hue) (_ : k54.pre x) : V54 x := rfl
theorem v55 (x : Span) (_ : k55.pre x) : V55 x := rfl
theorem v56 (x : Hue) (_ : k56.pre x) : V56 x := rfl
theorem v57 (x : Span) (_ : k57.pre x) : V57 x := rfl
theorem v37 (x : Int × Int) (_ : k37.pre x) : V37 x := rfl
theorem v10 (x : (List Hue) × Int) (_ : k10.pre x) : V10 x := rfl
theorem v26 (x : Int × Int) (_ : k26.pre x) : V26 x := rfl
theorem v29 (x : Unit) (_ : k29.pre x) : V29 x := ⟨trivial, trivial, trivial, trivial, trivial, trivial, trivial, trivial, trivial, trivial, rfl⟩
theorem v32 (x : Unit) (_ : k32.pre x) : V32 x := rfl
theorem v58 (x : List Turn) (_ : k58.pre x) : V58 x := rfl
theorem v43 (x : State × Mill) (_ : k43.pre x) : V43 x := rfl
theorem roomy_of {c n : Int} (hc : 0 ≤ c) (hc' : c ≤ 100) (hn : n ≤ 1000001) : Z.roomy c n := by
  unfold Z.roomy
  have h1 : n * (24 * c + 8) ≤ 1000001 * (24 * c + 8) := Int.mul_le_mul_of_nonneg_right hn (by omega)
  omega
theorem v44 (x : List Turn) (h : k44.pre x) : V44 x := by
  have hb : x.length ≤ big := h
  simp only [big] at hb
  refine ⟨trivial, fun hx => ⟨fun _ => hx.symm, fun h => (by cases h)⟩, fun h => (by cases h), fun _ => ⟨roomy_of (by omega) (by omega) ?_, rfl⟩⟩
  show ((List.replicate 0 ((0 : Int), (0 : Int)) ++ x).length : Int) ≤ _
  simp only [List.replicate_zero, List.nil_append]
  omega
end Go.Hue
