/-
  The symbolic layer, fifth part: the table of types held against a program.
-/
import Derived.Test.YtlkegffejcndbaaSx4
set_option linter.all false
namespace Go.Sx
variable {P : Program}

/-- The cells of a zero value. -/
def zc : Ty → List Value
  | .i k => [.int k 0]
  | .bo => [.bool false]
  | .u => []
  | .p a b => zc a ++ zc b
  | .st a => zc a
  | .sl _ => [.slice none 0 0]
  | .arr n t => (List.replicate n (zc t)).flatten
  | .ref _ => [.pointer none]
  | .f1 _ _ => [.nilFunc]
  | .f2 _ _ _ => [.nilFunc]
  | .sq _ _ => [.nilFunc]

theorem zc_rep : ∀ (t : Ty) (w : World) (M : Nat → Prop), t.zOk = true → Rep P t w M (zc t) t.z
  | .i k, w, M, _ => ⟨rfl, by cases k <;> decide, by cases k <;> decide⟩
  | .bo, _, _, _ => rfl
  | .u, _, _, _ => rfl
  | .p a b, w, M, h => by
    simp only [Ty.zOk, Bool.and_eq_true] at h
    exact ⟨zc a, zc b, rfl, zc_rep a w M h.1, zc_rep b w M h.2⟩
  | .st a, w, M, h => zc_rep a w M h
  | .sl t, w, M, _ => ⟨none, 0, rfl, by simp [Ty.z], .inl rfl⟩
  | .arr n t, w, M, h => ⟨List.replicate n (zc t), rfl, All2.replicate (zc_rep t w M h) n, by simp [Ty.z, Z.rep]⟩
  | .ref _, _, _, h => by cases h
  | .f1 a r, w, M, _ => ⟨.nilFunc, rfl, .inl rfl, fun _ _ _ _ _ _ h => h.elim⟩
  | .f2 a b r, w, M, _ => ⟨.nilFunc, rfl, .inl rfl, fun _ _ _ _ _ _ _ _ _ h => h.elim⟩
  | .sq n a, w, M, _ => ⟨.nilFunc, rfl, .inl rfl, fun _ _ _ _ h => h.elim⟩

def vEq : Value → Value → Bool
  | .int k a, .int j b => ikBeq k j && decide (a = b)
  | .bool a, .bool b => a == b
  | .slice none 0 0, .slice none 0 0 => true
  | .pointer none, .pointer none => true
  | .nilFunc, .nilFunc => true
  | _, _ => false
theorem vEq_eq {a b : Value} (h : vEq a b = true) : a = b := by
  unfold vEq at h
  split at h <;> simp_all
  exact ikBeq_eq h.1
def vsEq : List Value → List Value → Bool
  | [], [] => true
  | a :: l, b :: r => vEq a b && vsEq l r
  | _, _ => false
theorem vsEq_eq : ∀ {a b : List Value}, vsEq a b = true → a = b
  | [], [], _ => rfl
  | a :: l, b :: r, h => by
    simp only [vsEq, Bool.and_eq_true] at h
    rw [vEq_eq h.1, vsEq_eq h.2]
  | [], _ :: _, h => by cases h
  | _ :: _, [], h => by cases h
def zeroIs (z : Option Value) (t : Ty) : Bool := match z with
  | some (.agg cs) => t.agg && vsEq cs.toList (zc t)
  | some v => !t.agg && vsEq [v] (zc t)
  | none => false
theorem zeroIs_eq {z : Option Value} {t : Ty} (h : zeroIs z t = true) : z = some (pack t (zc t)) := by
  unfold zeroIs at h
  split at h
  · rename_i cs
    simp only [Bool.and_eq_true] at h
    simp only [pack, h.1, cond_true, ← vsEq_eq h.2, Array.toArray_toList]
  · rename_i v _
    simp only [Bool.and_eq_true, Bool.not_eq_true'] at h
    simp only [pack, h.1, cond_false, ← vsEq_eq h.2, List.headD_cons]
  · cases h

def comps : Ty → List Ty
  | .p a b => a :: comps b
  | .u => []
  | t => [t]
def tyIs (ty : Nat → Option Ty) (T : Nat) (t : Ty) : Bool := match ty T with
  | some t' => t'.beq t
  | none => false
theorem tyIs_eq {ty : Nat → Option Ty} {T : Nat} {t : Ty} (h : tyIs ty T t = true) : ty T = some t := by
  unfold tyIs at h
  split at h
  · rename_i t' e; rw [e, Ty.beq_eq h]
  · cases h
/-- A struct's fields, held against a spine, from an offset on; none of them is without cells. -/
def fieldsAre (ty : Nat → Option Ty) : List Field → List Ty → Nat → Bool
  | [], [], _ => true
  | f :: fs, t :: ts, o => tyIs ty f.type t && (Nat.beq f.offset o && ((!Nat.beq t.n 0) && ((f.name != "_") && fieldsAre ty fs ts (o + t.n))))
  | _, _, _ => false
def descIs (ty : Nat → Option Ty) (el : Nat → Nat) (T : Nat) : TypeDesc → Ty → Bool
  | .int k, .i j => ikBeq k j
  | .bool, .bo => true
  | .slice e, .sl t => tyIs ty e t && (Nat.beq (el T) e && !Nat.beq t.n 0)
  | .array n e, .arr m t => Nat.beq n m && (tyIs ty e t && !Nat.beq t.n 0)
  | .struct fs, .st sp => fieldsAre ty fs.toList (comps sp) 0
  | .pointer e, .ref t => tyIs ty e t
  | .func _ _ _, .f1 _ _ => true
  | .func _ _ _, .f2 _ _ _ => true
  | .func _ _ _, .sq _ _ => true
  | _, _ => false
def isAggD : TypeDesc → Bool
  | .struct _ => true
  | .array _ _ => true
  | _ => false
def tyOk (P : Program) (ty : Nat → Option Ty) (el : Nat → Nat) (T : Nat) : Bool :=
  match ty T with
  | none => true
  | some t => match P.info? T, P.underlying T with
    | some i, some d => Nat.beq i.size t.n && (Nat.ble i.bytes (24 * t.n + 8) && ((isAggD d == t.agg) && ((!t.zOk || zeroIs i.zero t) && (descIs ty el T d t && (!P.stoodInHeld T && (!P.eqGuardType P.depth T && (match i.zero with | some z => Nat.beq z.cells.size t.n | none => false)))))))
    | _, _ => false

/-- What the table says of a type. -/
structure TyF (P : Program) (ty : Nat → Option Ty) (el : Nat → Nat) (T : Nat) (t : Ty) : Prop where
  info : ∃ i d, P.info? T = some i ∧ P.underlying T = some d ∧ i.size = t.n ∧ i.bytes ≤ 24 * t.n + 8 ∧ isAggD d = t.agg ∧ (t.zOk = true → i.zero = some (pack t (zc t))) ∧ descIs ty el T d t = true ∧ P.stoodInHeld T = false ∧ P.eqGuardType P.depth T = false
  zsz : ∃ i z, P.info? T = some i ∧ i.zero = some z ∧ z.cells.size = t.n
theorem tyF_of {ty : Nat → Option Ty} {el : Nat → Nat} {T : Nat} {t : Ty} (h : tyOk P ty el T = true) (ht : ty T = some t) : TyF P ty el T t := by
  unfold tyOk at h
  rw [ht] at h
  simp only at h
  split at h
  · rename_i i d h1 h2
    simp only [Bool.and_eq_true, beq_iff_eq, Bool.or_eq_true, Bool.not_eq_true'] at h
    obtain ⟨a1, a2, a3, a4, a5, a6, a7, a8⟩ := h
    refine ⟨⟨i, d, h1, h2, Nat.eq_of_beq_eq_true a1, Nat.le_of_ble_eq_true a2, a3, fun hz => zeroIs_eq (a4.resolve_left (by rw [hz]; simp)), a5, a6, a7⟩, ?_⟩
    split at a8
    · rename_i z hz
      exact ⟨i, z, h1, hz, Nat.eq_of_beq_eq_true a8⟩
    · cases a8
  · cases h

section
variable {ty : Nat → Option Ty} {el : Nat → Nat} {T : Nat} {t : Ty}
theorem TyF.size (h : TyF P ty el T t) (w : World) : (sizeOf T).run P w = .ok t.n w := by
  obtain ⟨i, d, h1, h2, h3, _⟩ := h.info
  simp [sizeOf, typeInfo, h1, h3]
theorem TyF.isAgg (h : TyF P ty el T t) (w : World) : (isAgg T).run P w = .ok t.agg w := by
  obtain ⟨i, d, h1, h2, h3, h4, h5, _⟩ := h.info
  rw [← h5]
  cases d <;> simp [Go.isAgg, run_underlying h2, isAggD]
theorem TyF.zero (h : TyF P ty el T t) (hz : t.zOk = true) (w : World) : (zeroValue T).run P w = .ok (pack t (zc t)) w := by
  obtain ⟨i, d, h1, h2, h3, h4, h5, h6, _⟩ := h.info
  simp [zeroValue, typeInfo, h1, h6 hz]

/-- A variable is read. -/
theorem TyF.load (h : TyF P ty el T t) {w : World} {M : Nat → Prop} {b off : Nat} {cs : List Value} {x : t.D} (hr : Rep P t w M cs x) (hc : Cells w b off cs) :
    (Instr.loadAt T (.pointer (some ⟨b, off, none⟩))).run P w = .ok (pack t cs) w := by
  have hl := hr.length
  have hcell : ∀ j v, cs[j]? = some v → w.cell? ((⟨b, off, none⟩ : Addr).add j) = some v := by
    intro j v hj
    have := hc.cell hj
    simp only [Addr.add]
    by_cases h0 : j = 0
    · subst h0; simpa using this
    · simpa [h0] using this
  cases ha : t.agg with
  | true =>
    have := run_loadCells_list (P := P) w ⟨b, off, none⟩ cs hcell
    rw [hl] at this
    simp [Instr.loadAt, Instr.sureAddr, loadVar, Sem.run_bind, h.isAgg w, h.size w, ha, Result.andThen, this, pack]
  | false =>
    obtain ⟨v, rfl, _⟩ := hr.single ha
    have hv := hcell 0 v rfl
    rw [Addr.add_zero'] at hv
    simp [Instr.loadAt, Instr.sureAddr, loadVar, Sem.run_bind, h.isAgg w, ha, Result.andThen, hv, pack]
end

/-- A type of one cell. -/
def oneOk (P : Program) (T : Nat) : Bool :=
  match P.info? T, P.underlying T with
  | some i, some d => Nat.beq i.size 1 && (!isAggD d && (match i.zero with | some (.agg _) => false | some (.tuple _) => false | some _ => true | none => false))
  | _, _ => false
structure OneF (P : Program) (T : Nat) : Prop where
  agg : ∀ w, (isAgg T).run P w = .ok false w
  size : ∀ w, (sizeOf T).run P w = .ok 1 w
  zero : ∃ z, z.cells = #[z] ∧ (∀ l, z ≠ .agg l) ∧ (∀ l, z ≠ .tuple l) ∧ ∀ w, (zeroValue T).run P w = .ok z w
theorem oneF_of {T : Nat} (h : oneOk P T = true) : OneF P T := by
  unfold oneOk at h
  split at h
  · rename_i i d h1 h2
    simp only [Bool.and_eq_true, Bool.not_eq_true'] at h
    obtain ⟨a1, a2, a3⟩ := h
    have a1 := Nat.eq_of_beq_eq_true a1
    refine ⟨fun w => ?_, fun w => by simp [sizeOf, typeInfo, h1, a1], ?_⟩
    · cases d <;> simp [Go.isAgg, run_underlying h2, isAggD] at a2 ⊢
    · split at a3
      · cases a3
      · cases a3
      · rename_i z n1 n2 hz
        have m1 : ∀ l, z ≠ .agg l := fun l e => n1 l e
        have m2 : ∀ l, z ≠ .tuple l := fun l e => n2 l e
        refine ⟨z, ?_, m1, m2, fun w => by simp [zeroValue, typeInfo, h1, hz]⟩
        cases z <;> first | rfl | exact absurd rfl (m1 _)
      · cases a3
  · cases h
end Go.Sx
