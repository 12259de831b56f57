/-
  The symbolic layer, tenth part: bits, tests of equality, conversions, addresses, reads.
-/
import Derived.Test.YtlkegffejcndbaaSx9
set_option linter.all false
namespace Go.Sx

theorem ofInt_toNat {x : Int} (h0 : 0 ≤ x) (h1 : x ≤ 9223372036854775807) : (BitVec.ofInt 64 x).toNat = x.toNat := by
  rw [BitVec.toNat_ofInt]
  omega
theorem wrap_nat {n : Nat} (h : n ≤ 9223372036854775807) : IntKind.i64.wrap (n : Int) = (n : Int) := by
  rw [IntKind.wrap_i64]; omega
theorem lt63 {x : Int} (h1 : x ≤ 9223372036854775807) : x.toNat < 2 ^ 63 := by
  have : (2 : Nat) ^ 63 = 9223372036854775808 := by decide
  omega

section
variable {K : Ctx} {s : ASt} {a : Act} {w : World} {β : Nat → Loc} {cx : Cx} {g : List (Nat × Bool)} {o : Oper} {e : Eff} {d : Nat}

theorem did_bits (h : RelB K s a w β) {op : BinOp} {T U : TypeId} {x y : Operand} (hop : o.op = .binOp op T x y U) {k' : IntKind} {p q : Int} (hx : a.eval x = .int .i64 p) (hy : a.eval y = .int k' q) (hq : k'.min ≤ q ∧ q ≤ k'.max) (hp : IntKind.i64.min ≤ p ∧ p ≤ IntKind.i64.max)
    (hk : (op = .shl ∨ op = .shr) ∨ k' = .i64) (he : bits op p q = some e) (hob : ∀ r, e.obl = some r → r) : Did K s a w o e := by
  rw [min64, max64] at hp
  unfold bits at he
  split at he
  · obtain rfl : k' = .i64 := by simpa using hk
    rw [min64, max64] at hq
    have he := okO_some he; subst he
    obtain ⟨h1, h2⟩ := hob _ rfl
    have hle : p.toNat &&& q.toNat ≤ p.toNat := Nat.and_le_left
    refine did_pure (v := .int .i64 ((p.toNat &&& q.toNat : Nat) : Int)) h rfl ?_ (mk_int (by rw [min64]; simp only [Z.zand]; omega) (by rw [max64]; simp only [Z.zand]; omega))
    have hrun : (Op.intBits .and .i64 p q).run K.P w = .ok (.int .i64 ((p.toNat &&& q.toNat : Nat) : Int)) w := by
      show Result.ok (Value.int .i64 (IntKind.i64.wrap (((BitVec.ofInt 64 p &&& BitVec.ofInt 64 q).toNat : Nat) : Int))) w = _
      rw [BitVec.toNat_and, ofInt_toNat h1 hp.2, ofInt_toNat h2 hq.2, wrap_nat (by omega)]
    simp [execOp, hop, hx, hy, eqGuard, binOp, hrun]
  · obtain rfl : k' = .i64 := by simpa using hk
    rw [min64, max64] at hq
    have he := okO_some he; subst he
    obtain ⟨h1, h2⟩ := hob _ rfl
    have hle : p.toNat ||| q.toNat < 2 ^ 63 := Nat.or_lt_two_pow (lt63 hp.2) (lt63 hq.2)
    have e63 : (2 : Nat) ^ 63 = 9223372036854775808 := by decide
    rw [e63] at hle
    refine did_pure (v := .int .i64 ((p.toNat ||| q.toNat : Nat) : Int)) h rfl ?_ (mk_int (by rw [min64]; simp only [Z.zor]; omega) (by rw [max64]; simp only [Z.zor]; omega))
    have hrun : (Op.intBits .or .i64 p q).run K.P w = .ok (.int .i64 ((p.toNat ||| q.toNat : Nat) : Int)) w := by
      show Result.ok (Value.int .i64 (IntKind.i64.wrap (((BitVec.ofInt 64 p ||| BitVec.ofInt 64 q).toNat : Nat) : Int))) w = _
      rw [BitVec.toNat_or, ofInt_toNat h1 hp.2, ofInt_toNat h2 hq.2, wrap_nat (by omega)]
    simp [execOp, hop, hx, hy, eqGuard, binOp, hrun]
  · obtain rfl : k' = .i64 := by simpa using hk
    rw [min64, max64] at hq
    have he := okO_some he; subst he
    obtain ⟨h1, h2⟩ := hob _ rfl
    have hle : p.toNat ^^^ q.toNat < 2 ^ 63 := Nat.xor_lt_two_pow (lt63 hp.2) (lt63 hq.2)
    have e63 : (2 : Nat) ^ 63 = 9223372036854775808 := by decide
    rw [e63] at hle
    refine did_pure (v := .int .i64 ((p.toNat ^^^ q.toNat : Nat) : Int)) h rfl ?_ (mk_int (by rw [min64]; simp only [Z.zxor]; omega) (by rw [max64]; simp only [Z.zxor]; omega))
    have hrun : (Op.intBits .xor .i64 p q).run K.P w = .ok (.int .i64 ((p.toNat ^^^ q.toNat : Nat) : Int)) w := by
      show Result.ok (Value.int .i64 (IntKind.i64.wrap (((BitVec.ofInt 64 p ^^^ BitVec.ofInt 64 q).toNat : Nat) : Int))) w = _
      rw [BitVec.toNat_xor, ofInt_toNat h1 hp.2, ofInt_toNat h2 hq.2, wrap_nat (by omega)]
    simp [execOp, hop, hx, hy, eqGuard, binOp, hrun]
  · obtain rfl : k' = .i64 := by simpa using hk
    rw [min64, max64] at hq
    have he := okO_some he; subst he
    obtain ⟨h1, h2⟩ := hob _ rfl
    have hle : p.toNat ^^^ (p.toNat &&& q.toNat) < 2 ^ 63 := Nat.xor_lt_two_pow (lt63 hp.2) (Nat.lt_of_le_of_lt Nat.and_le_left (lt63 hp.2))
    have e63 : (2 : Nat) ^ 63 = 9223372036854775808 := by decide
    rw [e63] at hle
    have hbv : BitVec.ofInt 64 p &&& ~~~BitVec.ofInt 64 q = BitVec.ofInt 64 p ^^^ (BitVec.ofInt 64 p &&& BitVec.ofInt 64 q) := by
      ext i hi
      simp only [BitVec.getElem_and, BitVec.getElem_not, BitVec.getElem_xor]
      cases (BitVec.ofInt 64 p)[i] <;> cases (BitVec.ofInt 64 q)[i] <;> rfl
    refine did_pure (v := .int .i64 ((p.toNat ^^^ (p.toNat &&& q.toNat) : Nat) : Int)) h rfl ?_ (mk_int (by rw [min64]; simp only [Z.zandn]; omega) (by rw [max64]; simp only [Z.zandn]; omega))
    have hrun : (Op.intBits .andNot .i64 p q).run K.P w = .ok (.int .i64 ((p.toNat ^^^ (p.toNat &&& q.toNat) : Nat) : Int)) w := by
      show Result.ok (Value.int .i64 (IntKind.i64.wrap (((BitVec.ofInt 64 p &&& ~~~BitVec.ofInt 64 q).toNat : Nat) : Int))) w = _
      rw [hbv, BitVec.toNat_xor, BitVec.toNat_and, ofInt_toNat h1 hp.2, ofInt_toNat h2 hq.2, wrap_nat (by omega)]
    simp [execOp, hop, hx, hy, eqGuard, binOp, hrun]
  · have he := okO_some he; subst he
    obtain ⟨⟨h1, h2⟩, hin⟩ := hob _ rfl
    have hm : min q.toNat 64 = q.toNat := by omega
    refine did_pure (v := .int .i64 (p * 2 ^ q.toNat)) h rfl ?_ (mk_int (by rw [min64]; exact hin.1) (by rw [max64]; exact hin.2))
    simp [execOp, hop, hx, hy, eqGuard, binOp]
    exact wrap_in hin
  · have he := okO_some he; subst he
    obtain ⟨h1, h2⟩ := hob _ rfl
    have hm : min q.toNat 64 = q.toNat := by omega
    have hpos : (0 : Int) < 2 ^ q.toNat := Int.pow_pos (by decide)
    have hr : -9223372036854775808 ≤ p.fdiv (2 ^ q.toNat) ∧ p.fdiv (2 ^ q.toNat) ≤ 9223372036854775807 := by
      rw [Int.fdiv_eq_ediv_of_nonneg _ (Int.le_of_lt hpos)]
      constructor
      · rw [Int.le_ediv_iff_mul_le hpos]
        have h1 : (1 : Int) ≤ 2 ^ q.toNat := hpos
        have := Int.mul_le_mul_of_nonneg_left h1 (show (0 : Int) ≤ 9223372036854775808 by decide)
        omega
      · by_cases h0 : 0 ≤ p
        · exact Int.le_trans (Int.ediv_le_self _ h0) hp.2
        · have := Int.ediv_neg_of_neg_of_pos (show p < 0 by omega) hpos
          omega
    refine did_pure (v := .int .i64 (p.fdiv (2 ^ q.toNat))) h rfl ?_ (mk_int (by rw [min64]; exact hr.1) (by rw [max64]; exact hr.2))
    simp [execOp, hop, hx, hy, eqGuard, binOp]
    exact (Int.fdiv_eq_ediv_of_nonneg _ (Int.le_of_lt hpos)).symm
  · cases he

/-- Equality of data, as the machine tests it. -/
theorem fieldsAre_drop {ty : Nat → Option Ty} : ∀ {fs : List Field} {ts : List Ty} {off : Nat}, fieldsAre ty fs ts off = true → fs.length = ts.length
  | [], [], _, _ => rfl
  | f :: fs, t :: ts, _, h => by simp only [fieldsAre, Bool.and_eq_true] at h; simp [fieldsAre_drop h.2.2.2.2]
  | [], _ :: _, _, h => by cases h
  | _ :: _, [], _, h => by cases h

theorem TyF.part {P : Program} {ty : Nat → Option Ty} {el : Nat → Nat} {T : Nat} {t : Ty} (hT : TyF P ty el T t) {w : World} {M : Nat → Prop} {cs : List Value} {off : Nat} {x : t.D} (hn : off + t.n ≤ cs.length) (hr : Rep P t w M (Sx.sub cs off t.n) x) (w' : World) :
    (part T cs.toArray off).run P w' = .ok (pack t (Sx.sub cs off t.n)) w' := by
  have hl := hr.length
  cases ha : t.agg with
  | true =>
    simp only [Go.part, Sem.run_bind, hT.isAgg, ha, Result.andThen_ok, if_true, hT.size, Sem.run_pure, pack, cond_true]
    have e : cs.toArray.extract off (off + t.n) = ((cs.drop off).take t.n).toArray := by simp
    rw [e]; rfl
  | false =>
    obtain ⟨v, hv, _⟩ := hr.single ha
    have h0 : (Sx.sub cs off t.n)[0]? = cs[off]? := by
      have h1 : t.n = 1 := by rw [← hl, hv]; rfl
      rw [sub_getElem? (by omega)]; simp
    rw [hv] at h0
    simp only [List.getElem?_cons_zero] at h0
    simp [Go.part, Sem.run_bind, hT.isAgg, ha, ← h0, pack, hv]

variable {P : Program} {ty : Nat → Option Ty} {el : Nat → Nat}

theorem eq_rep (hty : ∀ T t, ty T = some t → TyF P ty el T t) : ∀ (n : Nat) {t : Ty} {T : Nat} {d : Nat} {w : World} {M : Nat → Prop} {x y : t.D} {r : Bool} {cs ds : List Value}, t.deep ≤ n → ty T = some t → n ≤ d → eqD t x y = some r → Rep P t w M cs x → Rep P t w M ds y →
    (∀ w', (Op.equalIn (d + 1) T (pack t cs) (pack t ds)).run P w' = .ok r w')
  | 0, t, _, _, _, _, _, _, _, _, _, h, _, _, _, _, _ => by
    exfalso
    have : ∀ t : Ty, 1 ≤ t.deep := by
      intro t
      induction t <;> simp only [Ty.deep] <;> omega
    have := this t; omega
  | n + 1, t, T, d, w, M, x, y, r, cs, ds, hdeep, hT, hd, he, hx, hy => by
    intro w'
    have hF := hty T t hT
    obtain ⟨i, dd, h1, h2, _, _, _, _, h3, h4, _⟩ := hF.info
    cases t with
    | i k =>
      obtain ⟨rfl, _⟩ := hx
      obtain ⟨rfl, _⟩ := hy
      cases he
      have hu : P.underlying T = some (.int k) := by
        cases dd <;> simp only [descIs, Bool.false_eq_true] at h3
        rw [h2, ikBeq_eq h3]
      exact run_equalIn_int w' d T k k _ _ hu
    | bo =>
      have hx : cs = _ := hx
      have hy : ds = _ := hy
      subst hx; subst hy
      cases he
      have hu : P.underlying T = some .bool := by
        cases dd <;> simp only [descIs, Bool.false_eq_true] at h3
        exact h2
      exact run_equalIn_bool' w' d T _ _ hu
    | st sp =>
      obtain ⟨fs, rfl⟩ : ∃ fs, dd = .struct fs := by cases dd <;> simp [descIs] at h3 <;> exact ⟨_, rfl⟩
      simp only [descIs] at h3
      have hfo : P.fieldsOf T = fs := by simp [Program.fieldsOf, h2]
      have hpk : ∀ l : List Value, pack (.st sp) l = .agg l.toArray := fun _ => rfl
      rw [hpk, hpk, run_equalIn_struct w' d T _ _ (by rw [hfo]; exact h2) h4, hfo]
      simp only [Ty.deep] at hdeep
      -- the last field
      have last : ∀ (sp' : Ty), comps sp' = [sp'] → ∀ (fs : List Field) (off : Nat) (x y : sp'.D) (r : Bool), sp'.deep ≤ n → fieldsAre ty fs (comps sp') off = true → eqD sp' x y = some r →
          off + sp'.n ≤ cs.length → off + sp'.n ≤ ds.length → Rep P sp' w M (Sx.sub cs off sp'.n) x → Rep P sp' w M (Sx.sub ds off sp'.n) y → ∀ w', (Op.eqFields d cs.toArray ds.toArray fs).run P w' = .ok r w' := by
        intro sp' hsp fs off x y r hdp hfs he hc hd' hx hy w'
        rw [hsp] at hfs
        cases fs with
        | nil => simp [fieldsAre] at hfs
        | cons f fs =>
          simp only [fieldsAre, Bool.and_eq_true, Bool.not_eq_true', bne_iff_ne, ne_eq] at hfs
          obtain ⟨g1, g2, g3, g4, g5⟩ := hfs
          have g1 := tyIs_eq g1
          have g2 := Nat.eq_of_beq_eq_true g2
          cases fs with
          | cons _ _ => simp [fieldsAre] at g5
          | nil =>
            have hFa := hty f.type sp' g1
            have pa := hFa.part (cs := cs) (off := off) (x := x) hc hx w'
            have pb := hFa.part (cs := ds) (off := off) (x := y) hd' hy w'
            have hb1 : ∀ t : Ty, 1 ≤ t.deep := by intro t; induction t <;> simp only [Ty.deep] <;> omega
            obtain ⟨d', rfl⟩ : ∃ d', d = d' + 1 := ⟨d - 1, by omega⟩
            have heq := eq_rep hty n (t := sp') (T := f.type) (d := d') hdp g1 (by omega) he hx hy w'
            simp only [Op.eqFields, g4, ne_eq, not_false_eq_true, if_true, Sem.run_bind, g2, pa, pb, Result.andThen_ok, heq]
            cases r <;> simp
      -- the fields, one by one
      have key : ∀ (sp' : Ty) (fs : List Field) (off : Nat) (x y : sp'.D) (r : Bool), sp'.deep ≤ n → fieldsAre ty fs (comps sp') off = true → eqD sp' x y = some r →
          off + sp'.n ≤ cs.length → off + sp'.n ≤ ds.length → Rep P sp' w M (Sx.sub cs off sp'.n) x → Rep P sp' w M (Sx.sub ds off sp'.n) y → ∀ w', (Op.eqFields d cs.toArray ds.toArray fs).run P w' = .ok r w' := by
        intro sp'
        induction sp' with
        | p a b _ ihb =>
          intro fs off x y r hdp hfs he hc hd' hx hy w'
          cases fs with
          | nil => simp [comps, fieldsAre] at hfs
          | cons f fs =>
            simp only [comps, fieldsAre, Bool.and_eq_true, Bool.not_eq_true', bne_iff_ne, ne_eq] at hfs
            obtain ⟨g1, g2, g3, g4, g5⟩ := hfs
            have g1 := tyIs_eq g1
            have g2 := Nat.eq_of_beq_eq_true g2
            simp only [eqD] at he
            split at he
            · rename_i p q hp hq
              cases he
              obtain ⟨c1, c2, e1, hx1, hx2⟩ := hx
              obtain ⟨d1, d2, e2, hy1, hy2⟩ := hy
              simp only [Ty.n] at hc hd' e1 e2
              have la := hx1.length; have lb := hx2.length; have la' := hy1.length; have lb' := hy2.length
              have s1 : Sx.sub cs off a.n = c1 := by
                have := sub_sub (cs := cs) (off := off) (n := a.n + b.n) (o := 0) (m := a.n) (by omega)
                rw [e1, ← la, sub_left] at this; rw [← la]; simpa using this.symm
              have s2 : Sx.sub cs (off + a.n) b.n = c2 := by
                have := sub_sub (cs := cs) (off := off) (n := a.n + b.n) (o := a.n) (m := b.n) (by omega)
                rw [e1] at this; rw [← this, ← la, ← lb, sub_right]
              have s3 : Sx.sub ds off a.n = d1 := by
                have := sub_sub (cs := ds) (off := off) (n := a.n + b.n) (o := 0) (m := a.n) (by omega)
                rw [e2, ← la', sub_left] at this; rw [← la']; simpa using this.symm
              have s4 : Sx.sub ds (off + a.n) b.n = d2 := by
                have := sub_sub (cs := ds) (off := off) (n := a.n + b.n) (o := a.n) (m := b.n) (by omega)
                rw [e2] at this; rw [← this, ← la', ← lb', sub_right]
              simp only [Ty.deep] at hdp
              have hFa := hty f.type a g1
              have pa := hFa.part (cs := cs) (off := off) (x := x.1) (by omega) (by rw [s1]; exact hx1) w'
              have pb := hFa.part (cs := ds) (off := off) (x := y.1) (by omega) (by rw [s3]; exact hy1) w'
              have hb1 : ∀ t : Ty, 1 ≤ t.deep := by intro t; induction t <;> simp only [Ty.deep] <;> omega
              obtain ⟨d', rfl⟩ : ∃ d', d = d' + 1 := ⟨d - 1, by omega⟩
              have heq := eq_rep hty n (t := a) (T := f.type) (d := d') (by have := hb1 b; omega) g1 (by omega) hp (cs := Sx.sub cs off a.n) (ds := Sx.sub ds off a.n) (by rw [s1]; exact hx1) (by rw [s3]; exact hy1) w'
              have ihb' := ihb fs (off + a.n) x.2 y.2 q (by have := hb1 a; omega) g5 hq (by omega) (by omega) (by rw [s2]; exact hx2) (by rw [s4]; exact hy2) w'
              simp only [Op.eqFields, g4, ne_eq, not_false_eq_true, if_true, Sem.run_bind, g2, pa, pb, Result.andThen_ok, heq]
              cases p with
              | true => simpa using ihb'
              | false => simp
            · cases he
        | u =>
          intro fs off x y r _ hfs he _ _ _ _ w'
          cases fs with
          | nil => cases he; rfl
          | cons f fs => simp [comps, fieldsAre] at hfs
        | i k => exact last (.i k) rfl
        | bo => exact last .bo rfl
        | st b _ => exact last (.st b) rfl
        | sl b _ => exact last (.sl b) rfl
        | arr m b _ => exact last (.arr m b) rfl
        | ref b _ => exact last (.ref b) rfl
        | f1 b c _ _ => exact last (.f1 b c) rfl
        | f2 b c e _ _ _ => exact last (.f2 b c e) rfl
        | sq m b _ => exact last (.sq m b) rfl
      exact key sp fs.toList 0 x y r (by omega) h3 he (by have := hx.length; simp only [Ty.n] at this; omega) (by have := hy.length; simp only [Ty.n] at this; omega)
        (by have := hx.length; simp only [Ty.n] at this; rw [← this, sub_all]; exact hx) (by have := hy.length; simp only [Ty.n] at this; rw [← this, sub_all]; exact hy) w'
    | u => cases dd <;> simp [descIs] at h3
    | p a b => cases dd <;> simp [descIs] at h3
    | sl a => cases he
    | arr m a => cases he
    | ref a => cases he
    | f1 a b => cases he
    | f2 a b c => cases he
    | sq m a => cases he
end
end Go.Sx
