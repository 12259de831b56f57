/-
  The symbolic layer, eleventh part: numbers, addresses and reads, as 'eff' gives them.
-/
import Derived.Test.YtlkegffejcndbaaSxA
set_option linter.all false
namespace Go.Sx

theorem spine_facts {ty : Nat → Option Ty} : ∀ {sp : Ty} {k : Nat} {q : List Stp} {fs : List Field} {off : Nat}, spinePath sp k = some q → fieldsAre ty fs (comps sp) off = true →
    ∃ f o tf, fs[k]? = some f ∧ offP sp q = some (o, tf) ∧ f.offset = off + o ∧ ty f.type = some tf ∧ tf.n ≠ 0 ∧ inP sp q := by
  intro sp
  have last : ∀ t : Ty, comps t = [t] → (∀ k, spinePath t k = match k with | 0 => some [] | _ => none) → ∀ {k : Nat} {q : List Stp} {fs : List Field} {off : Nat}, spinePath t k = some q → fieldsAre ty fs (comps t) off = true →
      ∃ f o tf, fs[k]? = some f ∧ offP t q = some (o, tf) ∧ f.offset = off + o ∧ ty f.type = some tf ∧ tf.n ≠ 0 ∧ inP t q := by
    intro t hc hsp k q fs off hq hf
    rw [hsp] at hq
    cases k with
    | succ k => cases hq
    | zero =>
      cases hq
      rw [hc] at hf
      cases fs with
      | nil => cases hf
      | cons f fs =>
        simp only [fieldsAre, Bool.and_eq_true, Bool.not_eq_true'] at hf
        obtain ⟨g1, g2, g3, _⟩ := hf
        have e : offP t [] = some (0, t) := by cases t <;> rfl
        refine ⟨f, 0, t, rfl, e, Nat.eq_of_beq_eq_true g2, tyIs_eq g1, (fun h0 => by rw [h0] at g3; cases g3), by cases t <;> trivial⟩
  induction sp with
  | p a b _ ihb =>
    intro k q fs off hq hf
    cases fs with
    | nil => cases hf
    | cons f fs =>
      simp only [comps, fieldsAre, Bool.and_eq_true, Bool.not_eq_true'] at hf
      obtain ⟨g1, g2, g3, _, g5⟩ := hf
      cases k with
      | zero =>
        cases hq
        have e : offP a [] = some (0, a) := by cases a <;> rfl
        refine ⟨f, 0, a, rfl, e, Nat.eq_of_beq_eq_true g2, tyIs_eq g1, (fun h0 => by rw [h0] at g3; cases g3), ?_⟩
        show inP a []
        cases a <;> trivial
      | succ k =>
        simp only [spinePath, Option.map_eq_some_iff] at hq
        obtain ⟨q', hq', rfl⟩ := hq
        obtain ⟨f', o, tf, h1, h2, h3, h4, h5, h6⟩ := ihb hq' g5
        exact ⟨f', a.n + o, tf, by simpa using h1, by simp [offP, h2], by omega, h4, h5, h6⟩
  | u =>
    intro k q fs off hq _
    cases k <;> cases hq
  | i k => exact last (.i k) rfl (fun k => by cases k <;> rfl)
  | bo => exact last .bo rfl (fun k => by cases k <;> rfl)
  | st b _ => exact last (.st b) rfl (fun k => by cases k <;> rfl)
  | sl b _ => exact last (.sl b) rfl (fun k => by cases k <;> rfl)
  | arr m b _ => exact last (.arr m b) rfl (fun k => by cases k <;> rfl)
  | ref b _ => exact last (.ref b) rfl (fun k => by cases k <;> rfl)
  | f1 b c _ _ => exact last (.f1 b c) rfl (fun k => by cases k <;> rfl)
  | f2 b c e _ _ _ => exact last (.f2 b c e) rfl (fun k => by cases k <;> rfl)
  | sq m b _ => exact last (.sq m b) rfl (fun k => by cases k <;> rfl)

theorem field_facts {P : Program} {ty : Nat → Option Ty} {el : Nat → Nat} {T k : Nat} {t : Ty} {q : List Stp} (h : TyF P ty el T t) (hq : fieldPath t k = some q) :
    ∃ (fs : Array Field) (f : Field) (tf : Ty), P.underlying T = some (.struct fs) ∧ fs[k]? = some f ∧ offP t q = some (f.offset, tf) ∧ ty f.type = some tf ∧ tf.n ≠ 0 ∧ inP t q := by
  cases t <;> simp only [fieldPath, reduceCtorEq] at hq
  rename_i sp
  simp only [Option.map_eq_some_iff] at hq
  obtain ⟨q', hq', rfl⟩ := hq
  obtain ⟨i, d, _, h2, _, _, _, _, h3, _⟩ := h.info
  obtain ⟨fs, rfl⟩ : ∃ fs, d = .struct fs := by cases d <;> simp [descIs] at h3 <;> exact ⟨_, rfl⟩
  obtain ⟨f, o, tf, a1, a2, a3, a4, a5, a6⟩ := spine_facts hq' h3
  refine ⟨fs, f, tf, h2, by simpa using a1, ?_, a4, a5, a6⟩
  show offP sp q' = _
  rw [a2, a3]; simp

section
variable {K : Ctx} {s : ASt} {a : Act} {w : World} {β : Nat → Loc} {cx : Cx} {g : List (Nat × Bool)} {o : Oper} {e : Eff} {d : Nat}

theorem did_binOp (hcx : CxOk K.P cx) (h : RelB K s a w β) (hg : Hold a g) {op : BinOp} {T U : TypeId} {x y : Operand} (hop : o.op = .binOp op T x y U) (hd : o.dst = some d) (he : eff cx s g o = some e) (hob : ∀ r, e.obl = some r → r) : Did K s a w o e := by
  have hx := ev_rep (cx := cx) h hg T x
  have hy := ev_rep (cx := cx) h hg T y
  simp only [eff, hop, hd] at he
  split at he
  · rename_i k p k' q h1 h2
    rw [h1] at hx; rw [h2] at hy
    obtain ⟨ex, ex1, ex2⟩ := int_val hx
    obtain ⟨ey, ey1, ey2⟩ := int_val hy
    split at he
    · split at he
      · exact did_bits h hop ex ey ⟨ey1, ey2⟩ ⟨ex1, ex2⟩ (.inl (.inl rfl)) he hob
      · cases he
    · split at he
      · exact did_bits h hop ex ey ⟨ey1, ey2⟩ ⟨ex1, ex2⟩ (.inl (.inr rfl)) he hob
      · cases he
    · split at he
      · exact did_bits h hop ex ey ⟨ey1, ey2⟩ ⟨ex1, ex2⟩ (.inr rfl) he hob
      · cases he
    · split at he
      · exact did_bits h hop ex ey ⟨ey1, ey2⟩ ⟨ex1, ex2⟩ (.inr rfl) he hob
      · cases he
    · split at he
      · exact did_bits h hop ex ey ⟨ey1, ey2⟩ ⟨ex1, ex2⟩ (.inr rfl) he hob
      · cases he
    · split at he
      · exact did_bits h hop ex ey ⟨ey1, ey2⟩ ⟨ex1, ex2⟩ (.inr rfl) he hob
      · cases he
    · obtain ⟨hk, he⟩ := cond_none he
      have hk := ikBeq_eq hk
      subst hk
      exact did_arith h hop ex ey ⟨ey1, ey2⟩ ⟨ex1, ex2⟩ he hob
  · rename_i t p t' q hno h1 h2
    rw [h1] at hx; rw [h2] at hy
    split at he
    · rename_i t₀ q' hT hq
      obtain ⟨hc, he⟩ := cond_none he
      simp only [Bool.and_eq_true] at hc
      have ht := Ty.beq_eq hc.1
      subst ht
      obtain ⟨cs, hcs, evx⟩ : VRep K.P t₀ w _ (a.eval x) p := hx
      obtain ⟨ds, hds, evy⟩ : VRep K.P t₀ w _ (a.eval y) q' := castD_vrep hq hy
      have hF := hcx.ty T t₀ hT
      obtain ⟨ii, dd, _, hu, _, _, _, _, h3, _, hgt⟩ := hF.info
      have run : ∀ r, eqD t₀ p q' = some r → (Op.equal T (pack t₀ cs) (pack t₀ ds)).run K.P w = .ok r w := fun r hr =>
        eq_rep hcx.ty 9999 (d := 9999) (Nat.le_of_ble_eq_true hc.2) hT (Nat.le_refl _) hr hcs hds w
      have hsh : (∃ b c, pack t₀ cs = .bool b ∧ pack t₀ ds = .bool c) ∨ (∃ l m, pack t₀ cs = .agg l ∧ pack t₀ ds = .agg m) ∨ (∃ k b c, pack t₀ cs = .int k b ∧ pack t₀ ds = .int k c ∧ eqD t₀ p q' = some (b == c)) ∨ eqD t₀ p q' = none := by
        cases t₀ with
        | i k => exact .inr (.inr (.inl ⟨k, p, q', by rw [hcs.1]; rfl, by rw [hds.1]; rfl, rfl⟩))
        | bo => exact .inl ⟨p, q', by rw [show cs = _ from hcs]; rfl, by rw [show ds = _ from hds]; rfl⟩
        | u => exact .inr (.inl ⟨_, _, rfl, rfl⟩)
        | p a b => exact .inr (.inl ⟨_, _, rfl, rfl⟩)
        | st a => exact .inr (.inl ⟨_, _, rfl, rfl⟩)
        | sl a => exact .inr (.inr (.inr rfl))
        | arr n a => exact .inr (.inr (.inr rfl))
        | ref a => exact .inr (.inr (.inr rfl))
        | f1 a b => exact .inr (.inr (.inr rfl))
        | f2 a b c => exact .inr (.inr (.inr rfl))
        | sq n a => exact .inr (.inr (.inr rfl))
      cases op <;> cases hr : eqD t₀ p q' <;> simp only [hr, reduceCtorEq] at he
      · rename_i r
        have he := ok_some he; subst he
        have hrun := run r hr
        refine did_pure (v := .bool r) h rfl ?_ mk_bool
        rcases hsh with ⟨b, c, e1, e2⟩ | ⟨l, m, e1, e2⟩ | ⟨k, b, c, e1, e2, e3⟩ | hn
        · rw [e1] at evx; rw [e2] at evy; rw [e1, e2] at hrun
          simp [execOp, hop, evx, evy, eqGuard, binOp, hrun]
        · rw [e1] at evx; rw [e2] at evy; rw [e1, e2] at hrun
          simp [execOp, hop, evx, evy, eqGuard, binOp, hrun, hgt]
        · rw [e1] at evx; rw [e2] at evy; rw [e3] at hr; cases hr
          simp [execOp, hop, evx, evy, eqGuard, binOp, Op.intCmp]
        · rw [hn] at hr; cases hr
      · rename_i r
        have he := ok_some he; subst he
        have hrun := run r hr
        refine did_pure (v := .bool (!r)) h rfl ?_ mk_bool
        rcases hsh with ⟨b, c, e1, e2⟩ | ⟨l, m, e1, e2⟩ | ⟨k, b, c, e1, e2, e3⟩ | hn
        · rw [e1] at evx; rw [e2] at evy; rw [e1, e2] at hrun
          simp [execOp, hop, evx, evy, eqGuard, binOp, hrun]
        · rw [e1] at evx; rw [e2] at evy; rw [e1, e2] at hrun
          simp [execOp, hop, evx, evy, eqGuard, binOp, hrun, hgt]
        · rw [e1] at evx; rw [e2] at evy; rw [e3] at hr; cases hr
          simp [execOp, hop, evx, evy, eqGuard, binOp, Op.intCmp, bne]
        · rw [hn] at hr; cases hr
    · cases he
  · cases he

theorem did_unOp (h : RelB K s a w β) (hg : Hold a g) {op : UnOp} {T : TypeId} {x : Operand} (hop : o.op = .unOp op T x) (hd : o.dst = some d) (he : eff cx s g o = some e) (hob : ∀ r, e.obl = some r → r) : Did K s a w o e := by
  have hx := ev_rep (cx := cx) h hg 0 x
  simp only [eff, hop, hd] at he
  split at he
  · rename_i p h1
    rw [h1] at hx
    have ex := bool_val hx
    have he := ok_some he; subst he
    refine did_pure (v := .bool (!p)) h rfl ?_ mk_bool
    simp [execOp, hop, ex, Op.unary]
  · rename_i p h1
    rw [h1] at hx
    obtain ⟨ex, _, _⟩ := int_val hx
    have he := okO_some he; subst he
    have hin := hob _ rfl
    refine did_pure (v := .int .i64 (-p)) h rfl ?_ (mk_int (by rw [min64]; exact hin.1) (by rw [max64]; exact hin.2))
    have hw : IntKind.i64.wrap (-p) = -p := wrap_in hin
    simp [execOp, hop, ex, Op.unary, Op.intArith, hw]
  · cases he

theorem wrap_same {k : IntKind} {n : Int} (h1 : k.min ≤ n) (h2 : n ≤ k.max) : k.wrap n = n := by
  cases k <;> simp only [IntKind.wrap, IntKind.min, IntKind.max, IntKind.signed, IntKind.bits] at * <;> simp at * <;> (try split) <;> omega

theorem did_convert (hcx : CxOk K.P cx) (h : RelB K s a w β) (hg : Hold a g) {S T : TypeId} {x : Operand} (hop : o.op = .convert S T x) (hd : o.dst = some d) (he : eff cx s g o = some e) : Did K s a w o e := by
  have hx := ev_rep (cx := cx) h hg S x
  simp only [eff, hop, hd] at he
  split at he
  · rename_i k p tS k' h1 h2 h3
    rw [h1] at hx
    obtain ⟨ex, e1, e2⟩ := int_val hx
    obtain ⟨iS, dS, _, uS, _⟩ := (hcx.ty S _ h2).info
    obtain ⟨iT, dT, _, uT, _, _, _, _, hdT, _⟩ := (hcx.ty T _ h3).info
    have hdT' : dT = .int k' := by cases dT <;> simp [descIs] at hdT; rw [ikBeq_eq hdT]
    subst hdT'
    have hrun : (execOp a.eval o).run K.P w = .ok (.value (.int k' (k'.wrap p))) w := by
      simp [execOp, hop, ex, convert, run_underlying uS, run_underlying uT, Conv.intToInt]
    have fin : ∀ n : Int, n = k'.wrap p → e = ⟨none, .s (.d (.i k') n), [], []⟩ → Did K s a w o e := by
      rintro n rfl rfl
      exact did_pure h rfl hrun (mk_int (wrap_range _ _).1 (wrap_range _ _).2)
    split at he
    · exact fin _ (wrap_same e1 e2).symm (ok_some he)
    · refine fin _ (wrap_same ?_ ?_).symm (ok_some he)
      · exact Int.le_trans (by decide) e1
      · exact Int.le_trans e2 (by decide)
    · refine fin _ (wrap_same ?_ ?_).symm (ok_some he)
      · exact Int.le_trans (by decide) e1
      · exact Int.le_trans e2 (by decide)
    · exact fin _ rfl (ok_some he)
  · cases he
end
end Go.Sx
