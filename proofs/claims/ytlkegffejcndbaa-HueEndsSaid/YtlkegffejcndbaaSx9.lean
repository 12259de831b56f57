/-
  The symbolic layer, ninth part: each operation's step.
-/
import Derived.Test.YtlkegffejcndbaaSx8
import Derived.Laws.StructEq
import Derived.WalkArith
set_option linter.all false
namespace Go.Sx
section
variable {K : Ctx} {s : ASt} {a : Act} {w : World} {β : Nat → Loc} {cx : Cx} {g : List (Nat × Bool)} {o : Oper} {e : Eff} {d : Nat}

theorem ok_some {av : AV} (h : ok av = some e) : e = ⟨none, av, [], []⟩ := (Option.some.inj h).symm
theorem okO_some {p : Prop} {av : AV} (h : okO p av = some e) : e = ⟨some p, av, [], []⟩ := (Option.some.inj h).symm
theorem cond_none {c : Bool} {x : Option Eff} (h : cond c x none = some e) : c = true ∧ x = some e := by cases c <;> simp_all

theorem did_move (h : RelB K s a w β) (hg : Hold a g) {x : Operand} (hop : o.op = .move x ∨ o.op = .assign x) (he : e = ⟨none, ev cx s g o.type x, [], []⟩) : Did K s a w o e := by
  subst he
  refine did_pure (v := a.eval x) h rfl ?_ (ev_rep h hg _ _)
  rcases hop with hop | hop <;> simp [execOp, hop]

theorem did_pick (h : RelB K s a w β) (hg : Hold a g) {c x y : Operand} (hop : o.op = .pick c x y) (hd : o.dst = some d) (he : eff cx s g o = some e) : Did K s a w o e := by
  simp only [eff, hop, hd] at he
  split at he
  · rename_i t b hb
    have hb := asB_eq hb
    have hc := ev_rep (cx := cx) h hg 0 (.tmp t)
    rw [hb] at hc
    have hcv := bool_val hc
    have hx : b = true → AVRep K.P s β w (Mset K.Mg s β) (ev cx s ((t, true) :: g) o.type x) (a.eval x) := fun hbt =>
      ev_rep h (by intro z hz; rcases List.mem_cons.1 hz with rfl | hz; exact hbt ▸ hcv; exact hg z hz) _ _
    have hy : b = false → AVRep K.P s β w (Mset K.Mg s β) (ev cx s ((t, false) :: g) o.type y) (a.eval y) := fun hbf =>
      ev_rep h (by intro z hz; rcases List.mem_cons.1 hz with rfl | hz; exact hbf ▸ hcv; exact hg z hz) _ _
    split at he
    · rename_i p q h1 h2
      have he := ok_some he
      subst he
      rw [h1] at hx
      rw [h2] at hy
      cases b with
      | true =>
        have := bool_val (hx rfl)
        refine did_pure (v := .bool p) h rfl ?_ mk_bool
        simp [execOp, hop, hcv, asBool, this]
      | false =>
        have := bool_val (hy rfl)
        refine did_pure (v := .bool q) h rfl ?_ mk_bool
        simp [execOp, hop, hcv, asBool, this]
    · rename_i p q h1 h2
      have he := ok_some he
      subst he
      rw [h1] at hx
      rw [h2] at hy
      cases b with
      | true =>
        obtain ⟨e1, e2, e3⟩ := int_val (hx rfl)
        refine did_pure (v := .int .i64 p) h rfl ?_ (mk_int e2 e3)
        simp [execOp, hop, hcv, asBool, e1]
      | false =>
        obtain ⟨e1, e2, e3⟩ := int_val (hy rfl)
        refine did_pure (v := .int .i64 q) h rfl ?_ (mk_int e2 e3)
        simp [execOp, hop, hcv, asBool, e1]
    · cases he
  · cases he

theorem min64 : IntKind.i64.min = -9223372036854775808 := rfl
theorem max64 : IntKind.i64.max = 9223372036854775807 := rfl
theorem wrap_in {n : Int} (h : Z.in64 n) : IntKind.i64.wrap n = n := by
  obtain ⟨h1, h2⟩ := h
  rw [IntKind.wrap_i64]; omega
theorem wrap_range (k : IntKind) (n : Int) : k.min ≤ k.wrap n ∧ k.wrap n ≤ k.max := by
  cases k <;> simp only [IntKind.wrap, IntKind.min, IntKind.max, IntKind.signed, IntKind.bits] <;> simp <;> (try split) <;> omega

theorem did_arith (h : RelB K s a w β) {op : BinOp} {T U : TypeId} {x y : Operand} (hop : o.op = .binOp op T x y U) {k : IntKind} {p q : Int} (hx : a.eval x = .int k p) (hy : a.eval y = .int k q) (hq : k.min ≤ q ∧ q ≤ k.max) (hp : k.min ≤ p ∧ p ≤ k.max)
    (he : arith op k p q = some e) (hob : ∀ r, e.obl = some r → r) : Did K s a w o e := by
  unfold arith at he
  split at he
  · -- add
    split at he
    · have he := okO_some he; subst he
      have hin := hob _ rfl
      refine did_pure (v := .int .i64 (p + q)) h rfl ?_ (mk_int (by rw [min64]; exact hin.1) (by rw [max64]; exact hin.2))
      simp [execOp, hop, hx, hy, eqGuard, binOp, Op.intArith, wrap_in hin]
    · have he := ok_some he; subst he
      refine did_pure (v := .int k (k.wrap (p + q))) h rfl ?_ (mk_int (wrap_range _ _).1 (wrap_range _ _).2)
      simp [execOp, hop, hx, hy, eqGuard, binOp, Op.intArith]
  · split at he
    · have he := okO_some he; subst he
      have hin := hob _ rfl
      refine did_pure (v := .int .i64 (p - q)) h rfl ?_ (mk_int (by rw [min64]; exact hin.1) (by rw [max64]; exact hin.2))
      simp [execOp, hop, hx, hy, eqGuard, binOp, Op.intArith, wrap_in hin]
    · have he := ok_some he; subst he
      refine did_pure (v := .int k (k.wrap (p - q))) h rfl ?_ (mk_int (wrap_range _ _).1 (wrap_range _ _).2)
      simp [execOp, hop, hx, hy, eqGuard, binOp, Op.intArith]
  · split at he
    · have he := okO_some he; subst he
      have hin := hob _ rfl
      refine did_pure (v := .int .i64 (p * q)) h rfl ?_ (mk_int (by rw [min64]; exact hin.1) (by rw [max64]; exact hin.2))
      simp [execOp, hop, hx, hy, eqGuard, binOp, Op.intArith, wrap_in hin]
    · have he := ok_some he; subst he
      refine did_pure (v := .int k (k.wrap (p * q))) h rfl ?_ (mk_int (wrap_range _ _).1 (wrap_range _ _).2)
      simp [execOp, hop, hx, hy, eqGuard, binOp, Op.intArith]
  · split at he
    · have he := okO_some he; subst he
      obtain ⟨hnz, hin⟩ := hob _ rfl
      have hnz : q ≠ 0 := hnz
      refine did_pure (v := .int .i64 (p.tdiv q)) h rfl ?_ (mk_int (by rw [min64]; exact hin.1) (by rw [max64]; exact hin.2))
      simp [execOp, hop, hx, hy, eqGuard, binOp, Op.intDiv, hnz, wrap_in hin]
    · cases he
  · have he := okO_some he; subst he
    have hnz : q ≠ 0 := hob _ rfl
    have hr : k.min ≤ p.tmod q ∧ p.tmod q ≤ k.max := by
      have hm : k.min ≤ 0 ∧ 0 ≤ k.max := by cases k <;> decide
      have key : ∀ z : Int, 0 ≤ z → 0 ≤ z.tmod q ∧ z.tmod q ≤ z := by
        intro z hz
        have a1 := Int.tmod_nonneg q hz
        have a2 := Int.natAbs_tmod z q
        have a3 := Nat.mod_le z.natAbs q.natAbs
        omega
      by_cases hp0 : 0 ≤ p
      · have := key p hp0; omega
      · have := key (-p) (by omega)
        rw [Int.neg_tmod] at this
        omega
    refine did_pure (v := .int k (p.tmod q)) h rfl ?_ (mk_int hr.1 hr.2)
    simp [execOp, hop, hx, hy, eqGuard, binOp, Op.intDiv, hnz]
  · have he := ok_some he; subst he
    refine did_pure (v := .bool (p == q)) h rfl ?_ mk_bool
    simp [execOp, hop, hx, hy, eqGuard, binOp, Op.intCmp]
  · have he := ok_some he; subst he
    refine did_pure (v := .bool (!(p == q))) h rfl ?_ mk_bool
    simp [execOp, hop, hx, hy, eqGuard, binOp, Op.intCmp, bne]
  · have he := ok_some he; subst he
    refine did_pure (v := .bool (decide (p < q))) h rfl ?_ mk_bool
    simp [execOp, hop, hx, hy, eqGuard, binOp, Op.intCmp]
  · have he := ok_some he; subst he
    refine did_pure (v := .bool (decide (p ≤ q))) h rfl ?_ mk_bool
    simp [execOp, hop, hx, hy, eqGuard, binOp, Op.intCmp]
  · have he := ok_some he; subst he
    refine did_pure (v := .bool (decide (q < p))) h rfl ?_ mk_bool
    simp [execOp, hop, hx, hy, eqGuard, binOp, Op.intCmp]
  · have he := ok_some he; subst he
    refine did_pure (v := .bool (decide (q ≤ p))) h rfl ?_ mk_bool
    simp [execOp, hop, hx, hy, eqGuard, binOp, Op.intCmp]
  · cases he
end
end Go.Sx
