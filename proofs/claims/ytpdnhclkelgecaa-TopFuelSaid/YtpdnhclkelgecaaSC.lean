/-
  The symbolic layer, part 17: storing.
-/
import Derived.Test.YtpdnhclkelgecaaSB
set_option linter.all false


namespace Go.Sx

theorem splice_length {cs vs : List Value} {o : Nat} (h : o + vs.length ≤ cs.length) : (splice cs o vs).length = cs.length := by
  simp only [splice, List.length_append, List.length_take, List.length_drop]; omega
theorem take_splice {cs vs : List Value} {o m : Nat} (h : o + vs.length ≤ m) (hm : m ≤ cs.length) : (splice cs o vs).take m = splice (cs.take m) o vs := by
  simp only [splice]
  rw [List.take_append, List.take_append, List.take_take, List.take_take, List.length_take, List.drop_take]
  have e1 : min o cs.length = o := by omega
  have e2 : min m o = o := by omega
  have e3 : min o m = o := by omega
  rw [e1, e2, e3, List.take_of_length_le (l := vs) (by omega)]
  congr 2
  congr 1
  omega

section
variable {K : Ctx} {s : ASt} {a : Act} {w w' : World} {β : Nat → Loc} {cx : Cx} {g : List (Nat × Bool)} {o : Oper} {e : Eff} {d : Nat}

theorem pathEq_eq' : ∀ {p q : List Stp}, pathEq p q = true → p = q
  | [], [], _ => rfl
  | .l :: p, .l :: q, h => by rw [pathEq_eq' (p := p) (q := q) h]
  | .r :: p, .r :: q, h => by rw [pathEq_eq' (p := p) (q := q) h]
  | .o :: p, .o :: q, h => by rw [pathEq_eq' (p := p) (q := q) h]
  | .x i :: p, .x j :: q, h => by
    simp only [pathEq, Bool.and_eq_true] at h
    rw [pathEq_eq' h.2, Nat.eq_of_beq_eq_true h.1]
theorem pathEq_self : ∀ (p : List Stp), pathEq p p = true
  | [] => rfl
  | .l :: p => pathEq_self p
  | .r :: p => pathEq_self p
  | .o :: p => pathEq_self p
  | .x i :: p => by simp [pathEq, pathEq_self p]
/-- An operation that yields nothing. -/
def DidS (K : Ctx) (s : ASt) (a : Act) (w : World) (o : Oper) (e : Eff) : Prop :=
  ∃ w' β', (execOp a.eval o).run K.P w = .ok .skip w' ∧ RelB K (after s e.wr) a w' β'

theorem run_store_splice {P : Program} {w : World} {T : TypeId} {b off : Nat} {cur : Array Value} {ty : TypeId} {v : Value} (hg : w.heap[b]? = some (.cells cur ty (0, 0))) (hsz : (sizeOf T).run P w = .ok v.cells.size w)
    (hle : off + v.cells.size ≤ cur.size) (hone : ∀ c ∈ v.cells.toList, c.oneCell' = true) :
    (Instr.storeAt T (.pointer (some ⟨b, off, none⟩)) v).run P w = .ok () (w.setRow b (splice cur.toList off v.cells.toList).toArray) := by
  have h := run_storeCells_at P b off ty v.cells.toList 0 cur w hg (by simpa using hle) hone
  simp only [Nat.add_zero, List.append_assoc] at h
  simp [Instr.storeAt, Instr.sureAddr, storeVar, hsz, h, splice]

/-! ### A box with a row in it -/
theorem splice_set {vs : List Value} {off : Nat} {u : Value} (h : off < vs.length) : splice vs off [u] = vs.set off u := by
  apply List.ext_getElem?
  intro j
  simp only [splice, List.getElem?_append, List.length_take, List.length_cons, List.length_nil, List.getElem?_take, List.getElem?_drop, List.getElem?_set]
  by_cases h1 : j < off
  · have : j < min off vs.length := by omega
    simp [this, h1, Nat.ne_of_gt h1]
  · by_cases h2 : j = off
    · subst h2
      have : ¬ j < min j vs.length := by omega
      have e : j - min j vs.length = 0 := by omega
      simp [this, e, h]
    · have h3 : ¬ j < min off vs.length := by omega
      have h4 : ¬ j - min off vs.length < 0 + 1 := by omega
      have h5 : off ≠ j := fun e => h2 e.symm
      simp only [h3, h4, if_false, h5]
      congr 1
      omega
theorem set_splice {vs cs : List Value} {off o : Nat} {u : Value} (hle : o + cs.length ≤ vs.length) (h : o + cs.length ≤ off ∨ off + 1 ≤ o) : splice (vs.set off u) o cs = (splice vs o cs).set off u := by
  apply List.ext_getElem?
  intro j
  have hl : (splice vs o cs).length = vs.length := splice_length hle
  simp only [List.getElem?_set, hl]
  simp only [splice, List.getElem?_append, List.length_take, List.length_set, List.getElem?_take, List.getElem?_drop, List.getElem?_set]
  by_cases h1 : j < o
  · have : j < min o vs.length := by omega
    simp only [this, if_true, h1]
  · have h1' : ¬ j < min o vs.length := by omega
    simp only [h1', if_false]
    by_cases h2 : j - min o vs.length < cs.length
    · have : off ≠ j := by omega
      simp [h2, this]
    · simp only [h2, if_false]
      by_cases h3 : off = j
      · subst h3
        have e : o + cs.length + (off - min o vs.length - cs.length) = off := by omega
        simp [e]
      · have h4 : off ≠ o + cs.length + (j - min o vs.length - cs.length) := by omega
        simp [h3, h4]
theorem Cells.set {w : World} {b off o n : Nat} {vs : List Value} {u : Value} {e : TypeId} (hh : w.heap[b]? = some (.cells (vs.set off u).toArray e (0, 0))) (h : o + n ≤ off ∨ off + 1 ≤ o) : Cells w b o (Sx.sub vs o n) := by
  refine ⟨_, _, _, hh, fun j v hj => ?_⟩
  by_cases hjn : j < n
  · rw [sub_getElem? hjn] at hj
    simp only [List.getElem?_toArray, List.getElem?_set]
    have : off ≠ o + j := by omega
    simp [this, hj]
  · have : (Sx.sub vs o n)[j]? = none := by simp [Sx.sub]; omega
    rw [this] at hj; cases hj
theorem apart_of {t : Ty} {q p : List Stp} {i j : Nat} {a b : Ty} (h : apart t q p = true) (h1 : offP t q = some (i, a)) (h2 : offP t p = some (j, b)) : i + a.n ≤ j ∨ j + b.n ≤ i := by
  simp only [apart, h1, h2, Bool.or_eq_true] at h
  exact h.imp Nat.le_of_ble_eq_true Nat.le_of_ble_eq_true
theorem sl_cells {P : Program} {te : Ty} {w : World} {M : Nat → Prop} {u : Value} {l : List te.D} (h : VRep P (.sl te) w M u l) : u.cells = #[u] := by
  obtain ⟨ad, cap, rfl, _⟩ := sl_val h
  rfl

/-- A row, as data for once. -/
theorem row_data (hcx : CxOk K.P cx) (h : RelB K s a w β) {r e₁ : Nat} {f : Bool} {te : Ty} {l : List te.D} {u : Value} (hr : s.obs r = some (some (.row f e₁ te l))) (hu : SVRep K.P s β w (Mset K.Mg s β) (.os r) u) : VRep K.P (.sl te) w noM u l :=
  AV.dv_rep hcx h (x := .s (.os r)) (v := ⟨.sl te, l⟩) hu (by simp [AV.dv, SV.dv, hr]) ⟨fun _ hb => hb.elim, fun _ _ _ _ hb => hb.elim⟩

theorem did_loadB (hcx : CxOk K.P cx) (h : RelB K s a w β) {T : TypeId} {x : Operand} {ob r : Nat} {p q : List Stp} {t : Ty} {y : t.D} (hop : o.op = .load T x) (hobj : s.obs ob = some (some (.bp t y p r)))
    (hx : inOb (.bp t y p r) q ∧ ∃ b off, (β ob).blk = some b ∧ obPos (.bp t y p r) q = some off ∧ a.eval x = .pointer (some ⟨b, off, none⟩)) (he : loadB cx s T ob t y p r q = some e) : Did K s a w o e := by
  obtain ⟨hin, b, off0, hb, hp, ex⟩ := hx
  obtain ⟨b', vs, et, u, off, te, hb', ⟨hoff, hlt, hip⟩, hh, hr, hu⟩ := h.ob _ _ hobj
  rw [hb] at hb'; cases hb'
  unfold loadB at he
  split at he
  · split at he
    · rename_i w₀ ids fz t' hs hT
      obtain ⟨h1, h2, h3, h4⟩ := solid_rep hcx h hs (us := [u]) ⟨hu, trivial⟩
      split at he
      · rename_i z hz
        split at he
        · rename_i z' hz'
          obtain ⟨hc, he⟩ := cond_some he
          subst he
          simp only [Bool.not_eq_true'] at hc
          have hobj1 : (after s fz).obs ob = some (some (.bp t y p r)) := by rw [after_other hc]; exact hobj
          obtain ⟨off', ho', hle, hr'⟩ := setP_rep (hr.tr h3) hz hip h4.1.cells.1
          rw [hoff] at ho'
          simp only [Option.some.injEq, Prod.mk.injEq] at ho'
          obtain ⟨e1, e2⟩ := ho'
          subst e1
          obtain ⟨wt, wx⟩ := w₀
          simp only at e2 h4
          subst e2
          have hcs : u.cells.toList = [u] := by rw [sl_cells h4.1]
          rw [hcs, splice_set hlt] at hr'
          obtain ⟨g1, g2, g3⟩ := h1.write (ob' := .bx false t z) (w' := w) hobj1 rfl rfl ⟨fun p hp => hp, fun p => rfl, rfl, rfl⟩ rfl rfl hb rfl (fun _ _ => rfl) (fun ht hc => ⟨b, _, et, hb, hh, hr'.tr ht⟩)
          refine ⟨pack t' (vs.set off u), w, β, ?_, g1, ⟨_, (castD_rep hz' hr').tr g3, rfl⟩⟩
          have := (hcx.ty T t' hT).load (castD_rep hz' hr') (b := b) (off := 0) (w := w) ⟨_, _, _, hh, fun j v hj => by simpa using hj⟩
          have h0 : off0 = 0 := by
            have : offP t [] = some (0, t) := by cases t <;> rfl
            simp only [obPos, this, Option.map_some, Option.some.injEq] at hp
            exact hp.symm
          subst h0
          simp [execOp, hop, ex, this]
        · cases he
      · cases he
    · cases he
  · split at he
    · cases he
    · rename_i t' hT
      cases hpe : pathEq q p with
      | true =>
        have hpe := pathEq_eq' hpe
        subst hpe
        rw [pathEq_self] at he
        simp only [cond_true] at he
        split at he
        · rename_i f e₁ te' l hrow
          obtain ⟨hc, he⟩ := cond_some he
          subst he
          have hc := Ty.beq_eq hc
          subst hc
          have hv := row_data hcx h hrow hu
          have hcs : u.cells.toList = [u] := by rw [sl_cells hv]
          have hrv := hv.cells.1
          rw [hcs] at hrv
          have h0 : off0 = off := by
            simp only [obPos, hoff, Option.map_some, Option.some.injEq] at hp
            exact hp.symm
          subst h0
          refine did_pure (v := u) h rfl ?_ hu
          have := (hcx.ty T _ hT).load hrv (b := b) (off := off0) (w := w) ⟨_, _, _, hh, fun j v hj => by
            cases j with
            | zero => simp at hj; subst hj; simp [hlt]
            | succ j => simp at hj⟩
          have hpk : pack (.sl te') [u] = u := rfl
          rw [hpk] at this
          simp [execOp, hop, ex, this]
        · cases he
      | false =>
        rw [hpe] at he
        simp only [cond_false] at he
        obtain ⟨hap, he⟩ := cond_none he
        simp only [Option.bind_eq_some_iff] at he
        obtain ⟨v, hv, z, hz, he⟩ := he
        cases he
        obtain ⟨off', ho', hle, hr'⟩ := getP_rep hr hv hin
        have hd := apart_of hap ho' hoff
        simp only [obPos, ho', Option.map_some, Option.some.injEq] at hp
        subst hp
        have hrz := castD_rep hz hr'
        refine did_pure (v := pack t' (Sx.sub vs off' v.t.n)) h rfl ?_ ⟨_, hrz, rfl⟩
        have := (hcx.ty T _ hT).load hrz (Cells.set hh hd)
        simp [execOp, hop, ex, this]

theorem did_storeB (hcx : CxOk K.P cx) (h : RelB K s a w β) {T : TypeId} {x y₁ : Operand} {ob r : Nat} {p q : List Stp} {t : Ty} {y : t.D} {ay : AV} (hop : o.op = .store T x y₁) (hobj : s.obs ob = some (some (.bp t y p r)))
    (hx : inOb (.bp t y p r) q ∧ ∃ b off, (β ob).blk = some b ∧ obPos (.bp t y p r) q = some off ∧ a.eval x = .pointer (some ⟨b, off, none⟩)) (hy : AVRep K.P s β w (Mset K.Mg s β) ay (a.eval y₁)) (he : storeB cx s T ob t y p r q ay = some e) : DidS K s a w o e := by
  obtain ⟨hin, b, off0, hb, hp, ex⟩ := hx
  unfold storeB at he
  split at he
  · rename_i w₀ ids fz hs
    obtain ⟨h1, h2, h3, h4⟩ := solid_rep hcx h hs (us := [a.eval y₁]) ⟨hy, trivial⟩
    split at he
    · rename_i z t' hz hT
      obtain ⟨hc, he⟩ := cond_some he
      subst he
      simp only [Bool.and_eq_true, Bool.not_eq_true'] at hc
      obtain ⟨⟨hc1, hap⟩, hc2⟩ := hc
      have hc1 := Ty.beq_eq hc1
      subst hc1
      have hobj1 : (after s fz).obs ob = some (some (.bp t y p r)) := by rw [after_other hc2]; exact hobj
      obtain ⟨b', vs, et, u, off, te, hb', ⟨hoff, hlt, hip⟩, hh, hr, hu⟩ := h1.ob _ _ hobj1
      rw [hb] at hb'; cases hb'
      have hv := h4.1.cells.1
      have hvl := hv.length
      obtain ⟨off', ho', hle, hr'⟩ := setP_rep hr hz hin hv
      simp only [obPos, ho', Option.map_some, Option.some.injEq] at hp
      subst hp
      have hd : off' + w₀.t.n ≤ off ∨ off + 1 ≤ off' := apart_of hap ho' hoff
      have hle2 : off' + (a.eval y₁).cells.toList.length ≤ vs.length := by rw [hvl]; exact hle
      have hsz : (sizeOf T).run K.P w = .ok (a.eval y₁).cells.size w := by
        have := (hcx.ty T _ hT).size w
        simp only [Array.length_toList] at hvl
        rw [hvl]; exact this
      have hrun := run_store_splice (P := K.P) (T := T) (off := off') (v := a.eval y₁) hh hsz (by simp only [Array.length_toList] at hvl; rw [hvl]; simpa using hle) hv.oneCells
      obtain ⟨g1, _, _⟩ := h1.write (ob' := .bp t z p r) (w' := w.setRow b (splice (vs.set off u).toArray.toList off' (a.eval y₁).cells.toList).toArray) hobj1 rfl rfl ⟨fun p hp => hp, fun p => rfl, rfl, rfl⟩ rfl rfl hb (setRow_size _ _ _) (fun c hc => setRow_other w b c _ hc) (by
        intro ht hc
        refine ⟨b, splice vs off' (a.eval y₁).cells.toList, et, u, off, te, hb, ⟨hoff, by rw [splice_length hle2]; exact hlt, hip⟩, ?_, hr'.tr ht, SVRep.next (x := .os r) hu hc ht⟩
        rw [setRow_heap w b _ _ et (0, 0) hh, ← set_splice hle2 (by rw [hvl]; exact hd)])
      exact ⟨_, β, by simp [execOp, hop, ex, hrun], g1⟩
    · cases he
  · cases he

theorem did_hold (hcx : CxOk K.P cx) (h : RelB K s a w β) {T : TypeId} {x y₁ : Operand} {ob : Nat} {q : List Stp} {t : Ty} {y : t.D} {ay : AV} (hop : o.op = .store T x y₁) (hobj : s.obs ob = some (some (.bx false t y)))
    (hx : inOb (.bx false t y) q ∧ ∃ b off, (β ob).blk = some b ∧ obPos (.bx false t y) q = some off ∧ a.eval x = .pointer (some ⟨b, off, none⟩)) (hy : AVRep K.P s β w (Mset K.Mg s β) ay (a.eval y₁)) (he : holdEff cx s T ob q t y ay = some e) : DidS K s a w o e := by
  obtain ⟨hin, b, off0, hb, hp, ex⟩ := hx
  unfold holdEff at he
  split at he
  · rename_i r
    split at he
    · rename_i e₁ te l te' y' te'' hm hrow hgp hT
      obtain ⟨hc, he⟩ := cond_some he
      subst he
      simp only [Bool.and_eq_true] at hc
      have e1 := Ty.beq_eq hc.1
      have e2 := Ty.beq_eq hc.2
      subst e1; subst e2
      obtain ⟨b', vs, et, hb', hh, hr⟩ := h.ob _ _ hobj
      rw [hb] at hb'; cases hb'
      obtain ⟨off, ho', hle, _⟩ := getP_rep hr hgp hin
      simp only [obPos, ho', Option.map_some, Option.some.injEq] at hp
      subst hp
      have hlt : off < vs.length := hle
      have hv := row_data hcx h hrow hy
      have hcs := sl_cells hv
      have hsz : (sizeOf T).run K.P w = .ok (a.eval y₁).cells.size w := by rw [hcs]; exact (hcx.ty T _ hT).size w
      have hrun := run_store_splice (P := K.P) (T := T) (off := off) (v := a.eval y₁) hh hsz (by rw [hcs]; simp; omega) (by have := hv.cells.1.oneCells; exact this)
      obtain ⟨g1, _, _⟩ := h.write (ob' := .bp t y q r) (w' := w.setRow b (splice vs.toArray.toList off (a.eval y₁).cells.toList).toArray) hobj rfl rfl ⟨fun p hp => hp, fun p => rfl, rfl, rfl⟩ rfl rfl hb (setRow_size _ _ _) (fun c hc => setRow_other w b c _ hc) (by
        intro ht hc
        refine ⟨b, vs, et, a.eval y₁, off, _, hb, ⟨ho', hlt, hin⟩, ?_, hr.tr ht, SVRep.next (x := .os r) hy hc ht⟩
        rw [setRow_heap w b _ _ et (0, 0) hh, hcs, ← splice_set hlt])
      exact ⟨_, β, by simp [execOp, hop, ex, hrun], g1⟩
    · cases he
  · cases he

theorem did_load (hcx : CxOk K.P cx) (h : RelB K s a w β) (hg : Hold a g) {T : TypeId} {x : Operand} (hop : o.op = .load T x) (hd : o.dst = some d) (he : eff cx s g o = some e) : Did K s a w o e := by
  have hx := ev_rep (cx := cx) h hg 0 x
  simp only [eff, hop, hd] at he
  unfold loadEff at he
  have plain : ∀ {t' : Ty} {M : Nat → Prop} {z : t'.D} {b off : Nat} {vs : List Value} {rd : List Nat}, cx.ty T = some t' → a.eval x = .pointer (some ⟨b, off, none⟩) → Rep K.P t' w (Mset K.Mg s β) vs z → Cells w b off vs → e = ⟨none, .s (.d t' z), rd, []⟩ → Did K s a w o e := by
    rintro t' M z b off vs rd hT ex hr hc rfl
    refine did_pure (v := pack t' vs) h rfl ?_ ⟨_, hr, rfl⟩
    have := (hcx.ty T t' hT).load hr hc
    simp [execOp, hop, ex, this]
  split at he
  · rename_i t y h1
    rw [h1] at hx
    obtain ⟨b, off, vs, ex, hst, hr, hc⟩ := ref_val hx
    split at he
    · rename_i t' hT
      simp only [Option.bind_eq_some_iff] at he
      obtain ⟨z, hz, he⟩ := he
      exact plain (M := noM) hT ex (castD_rep hz hr) hc (ok_some he)
    · cases he
  · rename_i ob q h1
    rw [h1] at hx
    simp only [AVRep, SVRep] at hx
    split at he
    · rename_i f t y hobj
      rw [hobj] at hx
      obtain ⟨hin, b, off, hb, hp, ex⟩ := hx
      obtain ⟨b', vs, e', hb', hh, hr⟩ := h.ob _ _ hobj
      rw [hb] at hb'; cases hb'
      split at he
      · rename_i v t' hv hT
        simp only [Option.bind_eq_some_iff] at he
        obtain ⟨z, hz, he⟩ := he
        obtain ⟨off', ho', hle, hr'⟩ := getP_rep hr hv hin
        simp only [obPos, ho', Option.map_some, Option.some.injEq] at hp
        subst hp
        have hc : Cells w b 0 vs := ⟨_, _, _, hh, fun j v hj => by simpa using hj⟩
        have := hc.sub hle
        rw [Nat.zero_add] at this
        exact plain (M := noM) hT ex (castD_rep hz hr') this (Option.some.inj he).symm
      · cases he
    · rename_i f e₁ t l hobj
      rw [hobj] at hx
      split at he
      · rename_i i q
        obtain ⟨⟨hi, hq⟩, b, off, hb, hp, ex⟩ := hx
        obtain ⟨_, hblk, vss, hvs, hown⟩ := h.ob _ _ hobj
        split at he
        · rename_i v t' hv hT
          simp only [Option.bind_eq_some_iff] at he
          obtain ⟨z, hz, he⟩ := he
          obtain ⟨c, hcc, hrc⟩ := hvs.get (getD_some (l := (l : List t.D)) (i := i) (d := t.z) hi)
          obtain ⟨e1, e2⟩ := flatten_sub (k := t.n) (all2u_length hvs) hcc
          obtain ⟨off', ho', hle, hr'⟩ := getP_rep hrc hv hq
          simp only [obPos, ho', Option.map_some, Option.some.injEq] at hp
          subst hp
          rcases hown.2 with ⟨g1, g2⟩ | ⟨gg, cap, cur, g1, _, g3, g4, _, g5, g6⟩
          · omega
          rw [g1] at hblk
          have : gg = b := by rw [hb] at hblk; simpa [Value.ownBlock] using hblk.symm
          subst this
          have hc : Cells w gg 0 vss.flatten := ⟨_, _, _, g3, fun j v hj => by
            rw [← g6] at hj
            have := (List.getElem?_eq_some_iff.1 hj).1
            rw [List.getElem?_take_of_lt (by simp at this; omega)] at hj
            simpa using hj⟩
          have hc1 := hc.sub e2
          rw [e1, Nat.zero_add] at hc1
          exact plain (M := noM) hT ex (castD_rep hz hr') (hc1.sub hle) (Option.some.inj he).symm
        · cases he
      · cases he
    · rename_i v hobj
      rw [hobj] at hx
      split at he
      · obtain ⟨_, b, off, hb, hp, ex⟩ := hx
        obtain ⟨hone, he⟩ := cond_none he
        cases he
        obtain ⟨b', u, e', hb', hh, hu⟩ := h.ob _ _ hobj
        rw [hb] at hb'; cases hb'
        cases hp
        refine did_pure (v := u) h rfl ?_ hu
        have hcell : w.cell? ⟨b, 0, none⟩ = some u := by simp [World.cell?, hh]
        simp [execOp, hop, ex, Instr.loadAt, Instr.sureAddr, loadVar, (hcx.one T hone).agg, hcell]
      · cases he
    · rename_i t y p r hobj
      rw [hobj] at hx
      exact did_loadB hcx h hop hobj hx he
    · cases he
  · cases he

theorem did_store (hcx : CxOk K.P cx) (h : RelB K s a w β) (hg : Hold a g) {T : TypeId} {x y : Operand} (hop : o.op = .store T x y) (hd : o.dst = none) (he : eff cx s g o = some e) : DidS K s a w o e := by
  have hx := ev_rep (cx := cx) h hg 0 x
  have hy := ev_rep (cx := cx) h hg T y
  simp only [eff, hop, hd] at he
  generalize ev cx s g 0 x = ax at he hx
  generalize ev cx s g T y = ay at he hy
  unfold storeEff at he
  split at he
  · rename_i ob q
    simp only [AVRep, SVRep] at hx
    split at he
    · rename_i v₀ hobj
      rw [hobj] at hx
      obtain ⟨hin, b, off, hb, hp, ex⟩ := hx
      split at he
      · cases hc : (cx.one T && ay.one s) with
        | false => rw [hc] at he; cases he
        | true =>
          rw [hc] at he
          simp only [cond_true, Option.some.injEq] at he
          subst he
          simp only [Bool.and_eq_true] at hc
          obtain ⟨hv1, hv2⟩ := one_val h hy hc.2
          obtain ⟨b', u, et, hb', hh, _⟩ := h.ob _ _ hobj
          rw [hb] at hb'; cases hb'
          simp only [obPos, Option.some.injEq] at hp
          subst hp
          have hrun := run_store_splice (P := K.P) (T := T) (off := 0) (v := a.eval y) hh (by rw [hv1]; exact (hcx.one T hc.1).size w) (by simp [hv1]) (by rw [hv1]; intro c hc; simp at hc; rw [hc]; exact hv2)
          obtain ⟨g1, _, _⟩ := h.write (ob' := .bv ay) (w' := w.setRow b (splice #[u].toList 0 (a.eval y).cells.toList).toArray) hobj rfl rfl ⟨fun p hp => (by cases p <;> first | trivial | cases hp), fun p => (by cases p <;> rfl), rfl, rfl⟩ rfl rfl hb (setRow_size _ _ _) (fun c hc => setRow_other w b c _ hc) (by
            intro ht hc
            refine ⟨b, a.eval y, et, hb, ?_, hy.next hc ht⟩
            rw [setRow_heap w b _ _ et (0, 0) hh]
            simp [splice, hv1])
          exact ⟨_, β, by simp [execOp, hop, ex, hrun], g1⟩
      · cases he
    · rename_i t y₀ hobj
      rw [hobj] at hx
      split at he
      · rename_i e' he'
        cases he
        exact did_hold hcx h hop hobj hx hy he'
      obtain ⟨hin, b, off, hb, hp, ex⟩ := hx
      split at he
      · rename_i w₀ ids fz hs
        obtain ⟨h1, h2, h3, h4⟩ := solid_rep hcx h hs (us := [a.eval y]) ⟨hy, trivial⟩
        split at he
        · rename_i z t' hz hT
          cases hc : (t'.beq w₀.t && !memN ob (fz.map (·.1))) with
          | false => rw [hc] at he; cases he
          | true =>
            rw [hc] at he
            simp only [cond_true, Option.some.injEq] at he
            subst he
            simp only [Bool.and_eq_true, Bool.not_eq_true'] at hc
            obtain ⟨hc1, hc2⟩ := hc
            have hc1 := Ty.beq_eq hc1
            subst hc1
            have hobj1 : (after s fz).obs ob = some (some (.bx false t y₀)) := by rw [after_other hc2]; exact hobj
            obtain ⟨b', vs, et, hb', hh, hr⟩ := h1.ob _ _ hobj1
            rw [hb] at hb'; cases hb'
            have hv := h4.1.cells.1
            have hvl := hv.length
            obtain ⟨off', ho', hle, hr'⟩ := setP_rep hr hz hin hv
            simp only [obPos, ho', Option.map_some, Option.some.injEq] at hp
            subst hp
            have hsz : (sizeOf T).run K.P w = .ok (a.eval y).cells.size w := by
              have := (hcx.ty T _ hT).size w
              simp only [Array.length_toList] at hvl
              rw [hvl]; exact this
            have hrun := run_store_splice (P := K.P) (T := T) (off := off') (v := a.eval y) hh hsz (by simp only [Array.length_toList] at hvl; rw [hvl]; simpa using hle) hv.oneCells
            obtain ⟨g1, _, _⟩ := h1.write (ob' := .bx false t z) (w' := w.setRow b (splice vs.toArray.toList off' (a.eval y).cells.toList).toArray) hobj1 rfl rfl ⟨fun p hp => hp, fun p => rfl, rfl, rfl⟩ rfl rfl hb (setRow_size _ _ _) (fun c hc => setRow_other w b c _ hc) (by
              intro ht hc
              exact ⟨b, _, et, hb, setRow_heap w b _ _ et (0, 0) hh, hr'.tr ht⟩)
            exact ⟨_, β, by simp [execOp, hop, ex, hrun], g1⟩
        · cases he
      · cases he
    · rename_i t y p r hobj
      rw [hobj] at hx
      exact did_storeB hcx h hop hobj hx hy he
    · rename_i et t l hobj
      rw [hobj] at hx
      split at he
      · rename_i i q'
        obtain ⟨⟨hi, hin⟩, b, off, hb, hp, ex⟩ := hx
        split at he
        · rename_i w₀ ids fz hs
          obtain ⟨h1, h2, h3, h4⟩ := solid_rep hcx h hs (us := [a.eval y]) ⟨hy, trivial⟩
          split at he
          · rename_i z t' hz hT
            cases hc : (t'.beq w₀.t && !memN ob (fz.map (·.1))) with
            | false => rw [hc] at he; cases he
            | true =>
              rw [hc] at he
              simp only [cond_true, Option.some.injEq] at he
              subst he
              simp only [Bool.and_eq_true, Bool.not_eq_true'] at hc
              obtain ⟨hc1, hc2⟩ := hc
              have hc1 := Ty.beq_eq hc1
              subst hc1
              have hobj1 : (after s fz).obs ob = some (some (.row false et t l)) := by rw [after_other hc2]; exact hobj
              obtain ⟨hlen, hblk, vss, hvs, hown⟩ := h1.ob _ _ hobj1
              obtain ⟨c, hcc, hrc⟩ := hvs.get (getD_some (l := (l : List t.D)) (i := i) (d := t.z) hi)
              have hk := all2u_length hvs
              have hv := h4.1.cells.1
              have hvl := hv.length
              obtain ⟨off', ho', hle, hr'⟩ := setP_rep hrc hz hin hv
              simp only [obPos, ho', Option.map_some, Option.some.injEq] at hp
              subst hp
              obtain ⟨e1, e2⟩ := flatten_sub (k := t.n) hk hcc
              have hcl := hrc.length
              have hsp := flatten_splice hk hcc (vs := (a.eval y).cells.toList) (o := off') (by rw [hvl, ← hcl]; exact hle) rfl
              have hfl := flatten_length hk
              have hvl0 := hvs.length
              rcases hown.2 with ⟨g1, g2⟩ | ⟨gg, cap, cur, g1, _, g3, g4, g4', g5, g6⟩
              · omega
              have hbb : gg = b := by rw [g1] at hblk; rw [hb] at hblk; simpa [Value.ownBlock] using hblk.symm
              subst hbb
              have hbig : (l : List t.D).length * t.n ≤ cur.size := by rw [g5]; exact Nat.mul_le_mul_right _ g4
              have hin2 : i * t.n + off' + (a.eval y).cells.toList.length ≤ (l : List t.D).length * t.n := by
                rw [hfl, hvl0] at e2
                rw [hvl]
                omega
              have hsz : (sizeOf T).run K.P w = .ok (a.eval y).cells.size w := by
                have := (hcx.ty T _ hT).size w
                simp only [Array.length_toList] at hvl
                rw [hvl]; exact this
              have hrun := run_store_splice (P := K.P) (T := T) (off := i * t.n + off') (v := a.eval y) g3 hsz (by simp only [Array.length_toList] at hin2; omega) hv.oneCells
              have hsl : (Z.set (l : List t.D) i z).length = (l : List t.D).length := by simp [Z.set]
              obtain ⟨k1, _, _⟩ := h1.write (ob' := .row false et t (Z.set l i z)) (w' := w.setRow gg (splice cur.toList (i * t.n + off') (a.eval y).cells.toList).toArray) hobj1 rfl rfl ⟨fun p hp => (by
                  cases p with
                  | nil => cases hp
                  | cons st p => cases st <;> first | exact ⟨by rw [hsl]; exact hp.1, hp.2⟩ | cases hp), fun p => (by
                  cases p with
                  | nil => rfl
                  | cons st p => cases st <;> rfl), rfl, rfl⟩ rfl rfl hb (setRow_size _ _ _) (fun c hc => setRow_other w gg c _ hc) (by
                intro ht hc
                refine ⟨by rw [hsl]; exact hlen, hblk, _, (hvs.set i hr').mono fun _ _ h => h.tr ht, ?_⟩
                rw [hsl, ← hsp]
                refine ⟨?_, .inr ⟨gg, cap, _, g1, Nat.zero_le _, setRow_heap w gg _ _ _ (0, 0) g3, g4, g4', ?_, ?_⟩⟩
                · rw [splice_length (by rw [hfl, hvl0]; exact hin2), hfl, hvl0]
                · rw [List.size_toArray, splice_length (by have := Array.length_toList (xs := cur); omega), Array.length_toList, g5]
                · show List.take _ (splice cur.toList _ _) = _
                  rw [take_splice hin2 (by rw [Array.length_toList]; exact hbig), g6])
              exact ⟨_, β, by simp [execOp, hop, ex, hrun], k1⟩
          · cases he
        · cases he
      · cases he
    · cases he
  · cases he
end
end Go.Sx

/-
  The symbolic layer, part 17b: maps of what is known.
-/

namespace Go.Sx
section
variable {P : Program} {ty : Nat → Option Ty} {el : Nat → Nat}

/-- A key's cells read as letters. -/
theorem keyLits_rep (hty : ∀ T t, ty T = some t → TyF P ty el T t) : ∀ (d : Nat) {T : Nat} {t : Ty} {w : World} {M : Nat → Prop} {cs : List Value} {x : t.D}, ty T = some t → P.keyTypeAt d T = true → Rep P t w M cs x → ∃ L, P.keyLits d T cs = some L
  | 0, _, _, _, _, _, _, _, hk, _ => by cases hk
  | d + 1, T, t, w, M, cs, x, hT, hk, hr => by
    have hF := hty T t hT
    obtain ⟨i, dd, h1, h2, hsz, _, _, _, h3, _⟩ := hF.info
    have hcells : P.cellsOf T = t.n := by simp [Program.cellsOf, h1, hsz]
    have hcl := hr.length
    have sizes : ∀ T' t', ty T' = some t' → P.cellsOf T' = t'.n := fun T' t' hT' => by
      obtain ⟨i', dd', g1, _, gsz, _⟩ := (hty T' t' hT').info
      simp [Program.cellsOf, g1, gsz]
    simp only [Program.keyTypeAt, h2] at hk
    cases t with
    | i k =>
      obtain ⟨rfl, a1, a2⟩ := hr
      have hu : dd = .int k := by
        cases dd <;> simp only [descIs, Bool.false_eq_true] at h3
        rw [ikBeq_eq h3]
      subst hu
      refine ⟨[.int k x], ?_⟩
      simp only [Program.keyLits, h2]
      rw [if_pos ⟨trivial, by simp [Lit.wf, a1, a2]⟩]
    | bo =>
      have hr : cs = _ := hr
      subst hr
      have hu : dd = .bool := by cases dd <;> simp only [descIs, Bool.false_eq_true] at h3; rfl
      subst hu
      exact ⟨[.bool x], by simp only [Program.keyLits, h2]⟩
    | u => cases dd <;> simp [descIs] at h3
    | p a b => cases dd <;> simp [descIs] at h3
    | sl a => cases dd <;> simp [descIs] at h3; simp at hk
    | ref a => cases dd <;> simp [descIs] at h3; simp at hk
    | f1 a b => cases dd <;> simp [descIs] at h3; simp at hk
    | f2 a b c => cases dd <;> simp [descIs] at h3; simp at hk
    | sq n a => cases dd <;> simp [descIs] at h3; simp at hk
    | im nm a b c => cases dd <;> simp [descIs] at h3; simp at hk
    | arr n t' =>
      obtain ⟨E, rfl⟩ : ∃ E, dd = .array n E := by
        cases dd <;> simp only [descIs, Bool.false_eq_true, Bool.and_eq_true] at h3
        exact ⟨_, by rw [Nat.eq_of_beq_eq_true h3.1]⟩
      simp only [descIs, Bool.and_eq_true] at h3
      have hE := tyIs_eq h3.2.1
      simp only at hk
      obtain ⟨vss, rfl, hv1, hv2⟩ := hr
      have he := sizes E t' hE
      have hall : ∀ l : List Nat, (∀ i ∈ l, i < n) → ∃ Ls, (l.mapM fun i => P.keyLits d E ((vss.flatten.drop (i * P.cellsOf E)).take (P.cellsOf E))) = some Ls := by
        intro l
        induction l with
        | nil => intro _; exact ⟨[], rfl⟩
        | cons i l ih =>
          intro hl
          obtain ⟨Ls, hLs⟩ := ih fun j hj => hl j (List.mem_cons_of_mem _ hj)
          obtain ⟨c, hc, hrc⟩ := hv1.get (getD_some (l := (x : List t'.D)) (i := i) (d := t'.z) (by rw [hv2]; exact hl i List.mem_cons_self))
          obtain ⟨e1, _⟩ := flatten_sub (k := t'.n) (all2u_length hv1) hc
          obtain ⟨L, hL⟩ := keyLits_rep hty d (w := w) (M := M) hE hk hrc
          refine ⟨L :: Ls, ?_⟩
          have e2 : (vss.flatten.drop (i * P.cellsOf E)).take (P.cellsOf E) = c := by rw [he]; exact e1
          rw [List.mapM_cons, e2, hL, hLs]; rfl
      obtain ⟨Ls, hLs⟩ := hall (List.range n) fun i hi => List.mem_range.1 hi
      refine ⟨Ls.flatten, ?_⟩
      simp only [Program.keyLits, h2]
      rw [if_pos (by rw [hcells]; exact hcl), hLs]; rfl
    | st sp =>
      obtain ⟨fs, rfl⟩ : ∃ fs, dd = .struct fs := by cases dd <;> simp [descIs] at h3 <;> exact ⟨_, rfl⟩
      simp only [descIs] at h3
      simp only [Bool.and_eq_true, Array.all_eq_true', bne_iff_ne, ne_eq] at hk
      have hnames : ∀ f ∈ fs, f.name ≠ "_" ∧ P.keyTypeAt d f.type = true := hk.1.1
      have hr : Rep P sp w M cs x := hr
      have hone : ∀ (t' : Ty) (off : Nat) (y : t'.D) (T' : Nat), ty T' = some t' → P.keyTypeAt d T' = true → Rep P t' w M (Sx.sub cs off t'.n) y → ∃ L, P.keyLits d T' ((cs.drop off).take (P.cellsOf T')) = some L := by
        intro t' off y T' hT' hk' hr'
        rw [sizes T' t' hT']
        exact keyLits_rep hty d hT' hk' hr'
      have key : ∀ (sp' : Ty) (l : List Field) (off : Nat) (y : sp'.D), fieldsAre ty l (comps sp') off = true → (∀ f ∈ l, P.keyTypeAt d f.type = true) → off + sp'.n ≤ cs.length → Rep P sp' w M (Sx.sub cs off sp'.n) y →
          ∃ Ls, (l.mapM fun f => P.keyLits d f.type ((cs.drop f.offset).take (P.cellsOf f.type))) = some Ls := by
        intro sp'
        have last : ∀ sp' : Ty, comps sp' = [sp'] → ∀ (l : List Field) (off : Nat) (y : sp'.D), fieldsAre ty l (comps sp') off = true → (∀ f ∈ l, P.keyTypeAt d f.type = true) → off + sp'.n ≤ cs.length → Rep P sp' w M (Sx.sub cs off sp'.n) y →
          ∃ Ls, (l.mapM fun f => P.keyLits d f.type ((cs.drop f.offset).take (P.cellsOf f.type))) = some Ls := by
          intro sp' hsp l off y hf hl hle hr'
          rw [hsp] at hf
          cases l with
          | nil => exact ⟨[], rfl⟩
          | cons f l =>
            simp only [fieldsAre, Bool.and_eq_true] at hf
            obtain ⟨g1, g2, _, _, g5⟩ := hf
            cases l with
            | cons _ _ => simp [fieldsAre] at g5
            | nil =>
              obtain ⟨L, hL⟩ := hone sp' off y f.type (tyIs_eq g1) (hl f List.mem_cons_self) hr'
              refine ⟨[L], ?_⟩
              rw [List.mapM_cons, Nat.eq_of_beq_eq_true g2, hL]; rfl
        induction sp' with
        | p a b _ ihb =>
          intro l off y hf hl hle hr'
          cases l with
          | nil => exact ⟨[], rfl⟩
          | cons f l =>
            simp only [comps, fieldsAre, Bool.and_eq_true] at hf
            obtain ⟨g1, g2, _, _, g5⟩ := hf
            obtain ⟨c1, c2, e1, hx1, hx2⟩ := hr'
            simp only [Ty.n] at hle e1
            have la := hx1.length; have lb := hx2.length
            have s1 : Sx.sub cs off a.n = c1 := by
              have := sub_sub (cs := cs) (off := off) (n := a.n + b.n) (o := 0) (m := a.n) (by omega)
              rw [e1, ← la, sub_left] at this; rw [← la]; simpa using this.symm
            have s2 : Sx.sub cs (off + a.n) b.n = c2 := by
              have := sub_sub (cs := cs) (off := off) (n := a.n + b.n) (o := a.n) (m := b.n) (by omega)
              rw [e1] at this; rw [← this, ← la, ← lb, sub_right]
            obtain ⟨L, hL⟩ := hone a off y.1 f.type (tyIs_eq g1) (hl f List.mem_cons_self) (by rw [s1]; exact hx1)
            obtain ⟨Ls, hLs⟩ := ihb l (off + a.n) y.2 g5 (fun f' hf' => hl f' (List.mem_cons_of_mem _ hf')) (by omega) (by rw [s2]; exact hx2)
            refine ⟨L :: Ls, ?_⟩
            rw [List.mapM_cons, Nat.eq_of_beq_eq_true g2, hL, hLs]; rfl
        | u => intro l off y hf _ _ _; cases l with
          | nil => exact ⟨[], rfl⟩
          | cons f l => simp [comps, fieldsAre] at hf
        | i k => exact last (.i k) rfl
        | bo => exact last .bo rfl
        | st b _ => exact last (.st b) rfl
        | sl b _ => exact last (.sl b) rfl
        | arr m b _ => exact last (.arr m b) rfl
        | ref b _ => exact last (.ref b) rfl
        | f1 b c _ _ => exact last (.f1 b c) rfl
        | f2 b c e _ _ _ => exact last (.f2 b c e) rfl
        | sq m b _ => exact last (.sq m b) rfl
        | im nm b c e _ _ _ => exact last (.im nm b c e) rfl
      obtain ⟨Ls, hLs⟩ := key sp fs.toList 0 x h3 (fun f hf => (hnames f (by simpa using hf)).2) (by simp only [Ty.n] at hcl; omega) (by simp only [Ty.n] at hcl; rw [← hcl, sub_all]; exact hr)
      refine ⟨Ls.flatten, ?_⟩
      simp only [Program.keyLits, h2]
      rw [if_pos ⟨by rw [hcells]; exact hcl, by rw [Array.all_eq_true']; intro f hf; simpa using (hnames f hf).1⟩, hLs]; rfl

theorem keyOf_rep (hty : ∀ T t, ty T = some t → TyF P ty el T t) {T : Nat} {t : Ty} {w : World} {M : Nat → Prop} {v : Value} {x : t.D} (hT : ty T = some t) (hk : P.keyType T = true) (hr : VRep P t w M v x) : ∃ l, keyOf P T v = some l := by
  obtain ⟨hr1, ev⟩ := hr.cells
  have hF := hty T t hT
  obtain ⟨i, dd, h1, h2, hsz, _, hag, _, h3, _⟩ := hF.info
  obtain ⟨L, hL⟩ := keyLits_rep hty _ hT hk hr1
  have hcells : P.cellsOf T = t.n := by simp [Program.cellsOf, h1, hsz]
  have hcl := hr1.length
  cases t with
  | i k =>
    obtain ⟨e1, a1, a2⟩ := hr1
    have hu : dd = .int k := by
      cases dd <;> simp only [descIs, Bool.false_eq_true] at h3
      rw [ikBeq_eq h3]
    subst hu
    rw [e1] at ev
    have ev : v = .int k x := ev
    subst ev
    exact ⟨.int k x, by simp [keyOf, mapKey, h2, Lit.wf, a1, a2]⟩
  | bo =>
    have e1 : v.cells.toList = _ := hr1
    rw [e1] at ev
    have ev : v = .bool x := ev
    subst ev
    have hu : dd = .bool := by cases dd <;> simp only [descIs, Bool.false_eq_true] at h3; rfl
    subst hu
    exact ⟨.bool x, by simp [keyOf, mapKey, h2]⟩
  | u => cases dd <;> simp [descIs] at h3
  | p a b => cases dd <;> simp [descIs] at h3
  | st sp =>
    obtain ⟨fs, rfl⟩ : ∃ fs, dd = .struct fs := by cases dd <;> simp [descIs] at h3 <;> exact ⟨_, rfl⟩
    have ev : v = .agg v.cells.toList.toArray := ev
    refine ⟨_, by
      unfold keyOf
      simp only [h2]
      rw [if_pos, hL]
      · rfl
      · rw [hk, ev]
        simp only [Value.formed, h2, Bool.true_and, beq_iff_eq, List.size_toArray]
        rw [hcells, hcl]⟩
  | arr n t' =>
    obtain ⟨m, E, rfl⟩ : ∃ m E, dd = .array m E := by cases dd <;> simp [descIs] at h3 <;> exact ⟨_, _, rfl⟩
    have ev : v = .agg v.cells.toList.toArray := ev
    refine ⟨_, by
      unfold keyOf
      simp only [h2]
      rw [if_pos, hL]
      · rfl
      · rw [hk, ev]
        simp only [Value.formed, h2, Bool.true_and, beq_iff_eq, List.size_toArray]
        rw [hcells, hcl]⟩
  | sl a => simp only [Program.keyType, Program.keyTypeAt, h2] at hk; cases dd <;> simp [descIs] at h3; simp at hk
  | ref a => simp only [Program.keyType, Program.keyTypeAt, h2] at hk; cases dd <;> simp [descIs] at h3; simp at hk
  | f1 a b => simp only [Program.keyType, Program.keyTypeAt, h2] at hk; cases dd <;> simp [descIs] at h3; simp at hk
  | f2 a b c => simp only [Program.keyType, Program.keyTypeAt, h2] at hk; cases dd <;> simp [descIs] at h3; simp at hk
  | sq n a => simp only [Program.keyType, Program.keyTypeAt, h2] at hk; cases dd <;> simp [descIs] at h3; simp at hk
  | im nm a b c => simp only [Program.keyType, Program.keyTypeAt, h2] at hk; cases dd <;> simp [descIs] at h3; simp at hk

/-- Of a key the cells tell the datum. -/
theorem Rep.inj : ∀ {t : Ty} {w w' : World} {M M' : Nat → Prop} {cs : List Value} {x y : t.D}, t.key = true → Rep P t w M cs x → Rep P t w' M' cs y → x = y
  | .i k, _, _, _, _, _, x, y, _, h, h' => by
    have := h.1.symm.trans h'.1
    simpa using this
  | .bo, _, _, _, _, cs, x, y, _, h, h' => by
    have h : cs = _ := h
    have h' : cs = _ := h'
    have := h.symm.trans h'
    simpa using this
  | .u, _, _, _, _, _, _, _, _, _, _ => rfl
  | .p a b, _, _, _, _, _, x, y, hk, h, h' => by
    simp only [Ty.key, Bool.and_eq_true] at hk
    obtain ⟨c, d, rfl, h1, h2⟩ := h
    obtain ⟨c', d', e, h1', h2'⟩ := h'
    have l1 := h1.length; have l2 := h1'.length
    obtain ⟨rfl, rfl⟩ := List.append_inj e (by omega)
    exact Prod.ext (Rep.inj hk.1 h1 h1') (Rep.inj hk.2 h2 h2')
  | .st a, _, _, _, _, _, x, y, hk, h, h' => Rep.inj (t := a) hk h h'
  | .arr n t, w, w', M, M', _, x, y, hk, h, h' => by
    obtain ⟨vss, rfl, h1, h2⟩ := h
    obtain ⟨vss', e, h1', h2'⟩ := h'
    have key : ∀ {vss vss' : List (List Value)} {x y : List t.D}, vss.flatten = vss'.flatten → All2 (Rep P t w M) vss x → All2 (Rep P t w' M') vss' y → x.length = y.length → x = y := by
      intro vss
      induction vss with
      | nil =>
        intro vss' x y _ hx _ hl
        cases x with
        | nil => cases y with
          | nil => rfl
          | cons _ _ => simp at hl
        | cons _ _ => exact hx.elim
      | cons c vss ih =>
        intro vss'' x y e hx hy hl
        cases x with
        | nil => exact hx.elim
        | cons a x =>
          cases y with
          | nil => simp at hl
          | cons b y =>
            cases vss'' with
            | nil => exact hy.elim
            | cons c' vss'' =>
              simp only [List.flatten_cons] at e
              have l1 := hx.1.length; have l2 := hy.1.length
              obtain ⟨e1, e2⟩ := List.append_inj e (by omega)
              subst e1
              rw [Rep.inj (t := t) hk hx.1 hy.1, ih (vss' := vss'') e2 hx.2 hy.2 (by simpa using hl)]
    exact key e h1 h1' (h2.trans h2'.symm)
  | .sl _, _, _, _, _, _, _, _, hk, _, _ => by cases hk
  | .ref _, _, _, _, _, _, _, _, hk, _, _ => by cases hk
  | .f1 _ _, _, _, _, _, _, _, _, hk, _, _ => by cases hk
  | .f2 _ _ _, _, _, _, _, _, _, _, hk, _, _ => by cases hk
  | .sq _ _, _, _, _, _, _, _, _, hk, _, _ => by cases hk
  | .im _ _ _ _, _, _, _, _, _, _, _, hk, _, _ => by cases hk
theorem key_flat : ∀ {t : Ty}, t.key = true → t.flat = true
  | .i _, _ => rfl
  | .bo, _ => rfl
  | .u, _ => rfl
  | .p a b, h => by
    simp only [Ty.key, Bool.and_eq_true] at h
    simp only [Ty.flat, Bool.and_eq_true]
    exact ⟨key_flat h.1, key_flat h.2⟩
  | .st a, h => key_flat (t := a) h
  | .arr _ t, h => key_flat (t := t) h
theorem VRep.inj {t : Ty} {w w' : World} {M M' : Nat → Prop} {v : Value} {x y : t.D} (hk : t.key = true) (h : VRep P t w M v x) (h' : VRep P t w' M' v y) : x = y :=
  Rep.inj hk h.cells.1 h'.cells.1
end

section
variable {K : Ctx} {s : ASt} {a : Act} {w w' : World} {β : Nat → Loc} {cx : Cx} {g : List (Nat × Bool)} {o : Oper} {e : Eff} {d : Nat}

theorem mapTys_eq {T : Nat} {tk tv : Ty} (h : mapTys cx T tk tv = true) : cx.mty T = some (keyTy cx T, elemTy cx T) ∧ cx.ty (keyTy cx T) = some tk ∧ cx.ty (elemTy cx T) = some tv ∧ tk.key = true ∧ tv.zOk = true := by
  unfold mapTys at h
  split at h
  · rename_i k e hT
    have e1 : keyTy cx T = k := by unfold keyTy; rw [hT]
    have e2 : elemTy cx T = e := by unfold elemTy; rw [hT]
    rw [e1, e2]
    split at h
    · rename_i a b ha hb
      simp only [Bool.and_eq_true] at h
      obtain ⟨⟨h1, h2⟩, h3, h4, _⟩ := h
      exact ⟨hT, by rw [ha, Ty.beq_eq h1], by rw [hb, Ty.beq_eq h2], h3, h4⟩
    · cases h
  · cases h

theorem did_makeMap (hcx : CxOk K.P cx) (h : RelB K s a w β) {T : TypeId} (hop : o.op = .makeMap T none) (hd : o.dst = some d) (he : eff cx s g o = some e) : Did K s a w o e := by
  simp only [eff, hop, hd, makeMapEff] at he
  split at he
  · rename_i m hobs hm
    obtain ⟨_, he⟩ := cond_some he
    subst he
    refine did_new (L := ⟨some w.heap.size, .slice none 0 0⟩) (w' := w.alloc (.map #[] 0)) (v := .map (some w.heap.size)) (fz := []) h h hobs (ext_alloc _ _) (fun b hb => by cases hb; exact Nat.le_refl _) rfl ?_ ?_ (.inr (.inr ⟨rfl, rfl, _, rfl, rfl⟩))
    · simp only [execOp, hop, Option.map_none, Instr.makeMap, Sem.run_bind, Sem.run_pure]
      rfl
    · intro _ _
      exact ⟨w.heap.size, #[], 0, rfl, World.alloc_heap_new _ _, fun e he => by simp at he⟩
  · cases he

theorem castD_self {t : Ty} (x : t.D) {y : t.D} (h : castD t t x = some y) : y = x := by
  obtain ⟨e, h⟩ := castD_some h
  exact h

/-- A map's block, and what a key finds there. -/
theorem map_find (hcx : CxOk K.P cx) (h : RelB K s a w β) {T : Nat} {tk tv : Ty} {inv : tk.D → tv.D → Prop} {q : Nat} (hq : s.obs q = some (some (.mm tk tv inv))) (ht : mapTys cx T tk tv = true) {key : Value} {x : tk.D} {M' : Nat → Prop} (hk : VRep K.P tk w M' key x) :
    ∃ b es ck kt et, (β q).blk = some b ∧ w.heap[b]? = some (.map es ck) ∧ K.P.underlying T = some (.map kt et) ∧ (∀ em, (Instr.checkKey em 10000 kt key).run K.P w = .ok () w) ∧
      (∀ e ∈ es, ∃ x y, VRep K.P tk w (Mset K.Mg s β) e.key x ∧ VRep K.P tv w (Mset K.Mg s β) e.val y ∧ inv x y) ∧ cx.ty et = some tv ∧ tv.zOk = true ∧
      (((Instr.findKey kt key es.toList).run K.P w = .ok none w) ∨
       ∃ j e, (Instr.findKey kt key es.toList).run K.P w = .ok (some (j, e.val)) w ∧ es[j]? = some e ∧ e.key = key ∧ (Instr.keyThatStays key key).run K.P w = .ok key w ∧ ∃ y, VRep K.P tv w (Mset K.Mg s β) e.val y ∧ inv x y) := by
  obtain ⟨h1, h2, h3, h4, h5⟩ := mapTys_eq ht
  obtain ⟨hu, hK, hkt⟩ := hcx.mty T _ _ h1
  obtain ⟨b, es, ck, hb, hh, hes⟩ := h.ob q _ hq
  obtain ⟨l, hl⟩ := keyOf_rep hcx.ty h2 hkt hk
  refine ⟨b, es, ck, _, _, hb, hh, hu, fun em => hK.check w em hl, hes, h3, h5, ?_⟩
  rcases hK.find w hl es.toList (fun e he => by
      obtain ⟨x, y, g1, _⟩ := hes e (by simpa using he)
      exact keyOf_rep hcx.ty h2 hkt g1) with ⟨g1, _⟩ | ⟨j, e, g1, g2, g3⟩
  · exact .inl g1
  · right
    have hmem : e ∈ es := by
      have := List.mem_of_getElem? g2
      simpa using this
    obtain ⟨x', y, k1, k2, k3⟩ := hes e hmem
    refine ⟨j, e, g1, by simpa using g2, g3, hK.stays w hl, y, k2, ?_⟩
    rw [g3] at k1
    rw [VRep.inj h4 hk k1]; exact k3

theorem did_mapUpdate (hcx : CxOk K.P cx) (h : RelB K s a w β) (hg : Hold a g) {T : TypeId} {m x y : Operand} (hop : o.op = .mapUpdate T m x y) (hd : o.dst = none) (he : eff cx s g o = some e) (hob : ∀ r, e.obl = some r → r) : DidS K s a w o e := by
  have hm := ev_rep (cx := cx) h hg T m
  have hx := ev_rep (cx := cx) h hg (keyTy cx T) x
  have hy := ev_rep (cx := cx) h hg (elemTy cx T) y
  simp only [eff, hop, hd] at he
  generalize ev cx s g T m = am at he hm
  generalize ev cx s g (keyTy cx T) x = ax at he hx
  generalize ev cx s g (elemTy cx T) y = ay at he hy
  unfold mapUpdateEff at he
  split at he
  · rename_i q
    split at he
    · rename_i tk tv inv hq
      simp only [AVRep, SVRep, hq] at hm
      obtain ⟨_, b, hb, em⟩ := hm
      split at he
      · rename_i xd yd ids fz hxd hs
        split at he
        · rename_i xx yy hxx hyy
          obtain ⟨hmt, he⟩ := cond_some he
          subst he
          have hinv : inv xx yy := hob _ rfl
          obtain ⟨h1, h2, h3, h4⟩ := solid_rep hcx h hs (show All2 _ [ay] [a.eval y] from ⟨hy, trivial⟩)
          have hkv := castD_vrep hxx (AV.dv_rep hcx h hx hxd (under_mg h fun q hq => open_live hq))
          have hvv : VRep K.P tv w (Mset K.Mg (after s fz) β) (a.eval y) yy := castD_vrep hyy h4.1
          have hq1 : (after s fz).obs q = some (some (.mm tk tv inv)) := by
            have : (after s fz).obs q = frO s ([ay].flatMap (AV.open? s)) q := by
              unfold solid at hs
              split at hs
              · cases hs; exact freeze_obs s _ q
              · cases hs
            rw [this]; unfold frO; rw [hq]; simp [frOb]
          obtain ⟨b', es, ck, kt, et, hb', hh, hu, hchk, hes, _, _, hfind⟩ := map_find hcx h1 hq1 hmt hkv
          rw [hb] at hb'; cases hb'
          have done : ∀ es' ck', (∀ e ∈ es', ∃ x y, VRep K.P tk w (Mset K.Mg (after s fz) β) e.key x ∧ VRep K.P tv w (Mset K.Mg (after s fz) β) e.val y ∧ inv x y) →
              (Instr.mapUpdate T (.map (some b)) (a.eval x) (a.eval y)).run K.P w = .ok () { w with heap := w.heap.setIfInBounds b (.map es' ck') } → DidS K s a w o ⟨some (inv xx yy), .un, q :: (ax.ids ++ ids), (q, some (.mm tk tv inv)) :: fz⟩ := by
            intro es' ck' hes' hrun
            have hblt : b < w.heap.size := (Array.getElem?_eq_some_iff.1 hh).1
            obtain ⟨k1, k2, k3⟩ := h1.write (ob' := .mm tk tv inv) (w' := { w with heap := w.heap.setIfInBounds b (.map es' ck') }) hq1 rfl rfl (.refl _) rfl rfl hb (by simp)
              (fun c hc => by simp [Array.getElem?_setIfInBounds_ne (Ne.symm hc)])
              (fun ht hc => ⟨b, es', ck', hb, by simp [hblt], fun e he => by
                obtain ⟨x, y, g1, g2, g3⟩ := hes' e he
                exact ⟨x, y, g1.tr ht, g2.tr ht, g3⟩⟩)
            refine ⟨_, β, ?_, k1⟩
            simp only [execOp, hop, em, hrun, Sem.run_bind, Result.andThen_ok, Sem.run_pure]
          have hkv' : VRep K.P tk w (Mset K.Mg (after s fz) β) (a.eval x) xx := hkv.flat (key_flat (mapTys_eq hmt).2.2.2.1)
          rcases hfind with hf | ⟨j, e, hf, hj, hke, hst, y', hy', _⟩
          · refine done (es.push { key := a.eval x, val := a.eval y, born := ck }) (ck + 1) ?_ ?_
            · intro e he
              rcases Array.mem_push.1 he with he | rfl
              · exact hes e he
              · exact ⟨xx, yy, hkv', hvv, hinv⟩
            · simp [Instr.mapUpdate, run_underlying hu, MapKept.run_getObj_map hh, hchk, hf, MapKept.run_setObj_map _ hh, Result.andThen]
          · refine done (es.modify j fun e => { e with key := a.eval x, val := a.eval y }) ck ?_ ?_
            · intro e' he'
              obtain ⟨i, hi, rfl⟩ := Array.mem_iff_getElem.1 he'
              rw [Array.getElem_modify]
              split
              · exact ⟨xx, yy, hkv', hvv, hinv⟩
              · exact hes _ (Array.getElem_mem _)
            · simp [Instr.mapUpdate, run_underlying hu, MapKept.run_getObj_map hh, hchk, hf, hj, hke, hst, MapKept.run_setObj_map _ hh, Result.andThen]
        · cases he
      · cases he
    · cases he
  · cases he
end
end Go.Sx

/-
  The symbolic layer, part 17c: calls that are lent objects: what is held against what.
-/

namespace Go.Sx

theorem pathEq_eq : ∀ {p q : List Stp}, pathEq p q = true → p = q
  | [], [], _ => rfl
  | .l :: p, .l :: q, h => by rw [pathEq_eq (p := p) (q := q) h]
  | .r :: p, .r :: q, h => by rw [pathEq_eq (p := p) (q := q) h]
  | .o :: p, .o :: q, h => by rw [pathEq_eq (p := p) (q := q) h]
  | .x i :: p, .x j :: q, h => by
    simp only [pathEq, Bool.and_eq_true] at h
    rw [Nat.eq_of_beq_eq_true h.1, pathEq_eq h.2]
theorem cond_opt' {α : Type} {c : Bool} {x y : α} (h : cond c (some x) none = some y) : c = true ∧ x = y := by cases c <;> simp_all
theorem eqSV_eq {a b : SV} {p : Prop} (h : eqSV a b = some p) (hp : p) : a = b := by
  unfold eqSV at h
  split at h
  · split at h
    · rename_i y hy
      cases h
      obtain ⟨rfl, e⟩ := castD_some hy
      have hp : _ = y := hp
      rw [hp, show y = _ from e]
    · cases h
  · obtain ⟨h, _⟩ := cond_opt' h
    simp only [Bool.and_eq_true] at h
    rw [Nat.eq_of_beq_eq_true h.1, pathEq_eq h.2]
  · obtain ⟨h, _⟩ := cond_opt' h
    rw [Nat.eq_of_beq_eq_true h]
  · obtain ⟨h, _⟩ := cond_opt' h
    rw [Nat.eq_of_beq_eq_true h]
  · obtain ⟨h, _⟩ := cond_opt' h
    simp only [Bool.and_eq_true] at h
    rw [Nat.eq_of_beq_eq_true h.1, Ty.beq_eq h.2]
  · cases h
theorem eqSVs_eq : ∀ {a b : List SV} {l : List Prop}, eqSVs a b = some l → allP l → a = b
  | [], [], _, _, _ => rfl
  | x :: a, y :: b, l, h, hl => by
    simp only [eqSVs] at h
    split at h
    · rename_i p q hp hq
      cases h
      rw [eqSV_eq hp hl.1, eqSVs_eq hq hl.2]
    · cases h
  | [], _ :: _, _, h, _ => by cases h
  | _ :: _, [], _, h, _ => by cases h
theorem allP_append : ∀ {l r : List Prop}, allP (l ++ r) → allP l ∧ allP r
  | [], _, h => ⟨trivial, h⟩
  | _ :: _, _, h => ⟨⟨h.1, (allP_append h.2).1⟩, (allP_append h.2).2⟩
theorem allP_mem : ∀ {l : List Prop}, allP l → ∀ p ∈ l, p
  | _ :: _, h, p, hp => by
    rcases List.mem_cons.1 hp with rfl | hp
    · exact h.1
    · exact allP_mem h.2 p hp

/-- An object of the caller's, and the callee's view of it. -/
def Twin (ren : List (Nat × Option Nat)) (f : Nat) (caps ccaps : List SV) : Ob → Ob → Prop
  | .row z e t l, ob => z = false ∧ ob = .row false e t l
  | .bx z t x, ob => z = false ∧ ob = .bx false t x
  | .mm tk tv inv, ob => ob = .mm tk tv inv
  | .bv (.s (.mp q)), ob => ∃ p, ob = .bv (.s (.mp p)) ∧ (p, some q) ∈ ren
  | .bv (.clo f' c), ob => f' = f ∧ c = caps ∧ ob = .bv (.clo f ccaps)
  | _, _ => False
theorem Twin.mono {ren ren' : List (Nat × Option Nat)} (h : ∀ x ∈ ren, x ∈ ren') {f : Nat} {caps ccaps : List SV} {ob ob' : Ob} (ht : Twin ren f caps ccaps ob ob') : Twin ren' f caps ccaps ob ob' := by
  cases ob with
  | bx _ _ _ => exact ht
  | row _ _ _ _ => exact ht
  | mm _ _ _ => exact ht
  | gh _ _ => exact ht
  | bp _ _ _ _ => exact ht
  | bv v =>
    cases v with
    | s v =>
      cases v with
      | mp q => obtain ⟨p, h1, h2⟩ := ht; exact ⟨p, h1, h _ h2⟩
      | _ => exact ht
    | clo _ _ => exact ht
    | _ => exact ht

/-- A value of the caller's, and the callee's view of it. -/
inductive VTw (cx : Cx) (s : ASt) (ren : List (Nat × Option Nat)) (sol : List AV) (l : List (Nat × Ob)) : AV → SV → Prop
  | d {x : AV} {v : Dv} (h : x.dv cx s = some v) (hs : x ∈ sol) : VTw cx s ren sol l x (.d v.t v.x)
  | nl {e : Nat} {t : Ty} {p : Nat} (h : (p, Ob.row false e t []) ∈ l) (hr : (p, none) ∈ ren) : VTw cx s ren sol l (.s (.nl e t)) (.os p)
  | os {o p e : Nat} {t : Ty} {y : List t.D} (hr : (p, some o) ∈ ren) (h : s.obs o = some (some (.row false e t y))) (hl : (p, Ob.row false e t y) ∈ l) : VTw cx s ren sol l (.s (.os o)) (.os p)
  | ptr {o p : Nat} {ob ob' : Ob} (hr : (p, some o) ∈ ren) (h : s.obs o = some (some ob)) (hl : (p, ob') ∈ l) (hb : isBv ob = true ∧ isBv ob' = true ∨ ∃ t y, ob = .bx false t y ∧ ob' = .bx false t y) : VTw cx s ren sol l (.s (.ptr o [])) (.ptr p [])
theorem VTw.mono {cx : Cx} {s : ASt} {ren ren' : List (Nat × Option Nat)} {sol sol' : List AV} {l l' : List (Nat × Ob)} (h1 : ∀ x ∈ ren, x ∈ ren') (h2 : ∀ x ∈ sol, x ∈ sol') (h3 : ∀ x ∈ l, x ∈ l') {x : AV} {v : SV} (h : VTw cx s ren sol l x v) : VTw cx s ren' sol' l' x v := by
  cases h with
  | d h hs => exact .d h (h2 _ hs)
  | nl h hr => exact .nl (h3 _ h) (h1 _ hr)
  | os hr h hl => exact .os (h1 _ hr) h (h3 _ hl)
  | ptr hr h hl hb => exact .ptr (h1 _ hr) h (h3 _ hl) hb

theorem unDs_mkDs : ∀ {ts : List Ty} {l : List Dv} {x : Ds ts}, mkDs ts l = some x → unDs ts x = l
  | [], [], _, _ => rfl
  | [a], [v], x, h => by
    obtain ⟨e, h⟩ := castD_some h
    obtain ⟨t, y⟩ := v
    simp only at e h
    subst e
    have h : x = y := h
    subst h; rfl
  | a :: b :: r, v :: w, x, h => by
    simp only [mkDs] at h
    split at h
    · rename_i y z h1 h2
      cases h
      obtain ⟨e, h1⟩ := castD_some h1
      obtain ⟨t, y'⟩ := v
      simp only at e h1
      subst e
      have h1 : y = y' := h1
      subst h1
      show ⟨_, y⟩ :: unDs (b :: r) z = _
      rw [unDs_mkDs h2]
    · cases h
  | [], _ :: _, _, h => by cases h
  | [_], [], _, h => by cases h
  | [_], _ :: _ :: _, _, h => by cases h
  | _ :: _ :: _, [], _, h => by cases h
theorem unDs_types : ∀ {ts : List Ty} {x : Ds ts}, (unDs ts x).map (·.t) = ts
  | [], _ => rfl
  | [_], _ => rfl
  | _ :: b :: r, x => by simp only [unDs, List.map_cons]; rw [unDs_types (ts := b :: r)]

structure MatchF (cx : Cx) (s : ASt) (f : Nat) (caps ccaps : List SV) (mi : MInv) (args : List AK) (i : Nat) (as : List AV) (m : Mt) : Prop where
  vals : All2 (VTw cx s m.ren m.sol (cObs f ccaps mi args i m.dvs)) as (cSvs args i m.dvs)
  obs : ∀ p ob', (p, ob') ∈ cObs f ccaps mi args i m.dvs → (∃ o ob, (p, some o) ∈ m.ren ∧ s.obs o = some (some ob) ∧ Twin m.ren f caps ccaps ob ob') ∨ ((p, none) ∈ m.ren ∧ ∃ e t, ob' = .row false e t [])
  keys : ∀ p ob', (p, ob') ∈ cObs f ccaps mi args i m.dvs → ∃ j, i ≤ j ∧ (p = pid j ∨ p = qid j)
  nodup : ((cObs f ccaps mi args i m.dvs).map (·.1)).Nodup
  rkeys : m.ren.map (·.1) = (cObs f ccaps mi args i m.dvs).map (·.1)
  rows : ∀ o ∈ m.rows, (∃ p, (p, some o) ∈ m.ren) ∧ ∃ e t y, s.obs o = some (some (.row false e t y))
  bxs : ∀ o ∈ m.bxs, (∃ p, (p, some o) ∈ m.ren) ∧ ∃ t y, s.obs o = some (some (.bx false t y))
  bnd : (m.ren.filterMap (·.2)).Nodup → m.bxs.Nodup
  fin : ∀ vs : List Dv, vs.map (·.t) = AK.boxes args → (∀ p ob', (p, ob') ∈ cFin f ccaps mi args i vs → ∃ o, (p, some o) ∈ m.ren) ∧
    ((cFin f ccaps mi args i vs).map (·.1)).Sublist ((cObs f ccaps mi args i m.dvs).map (·.1)) ∧ (boxWr m.bxs vs).map (·.1) = m.bxs ∧
    ∀ p o, (p, some o) ∈ m.ren → (o ∈ m.rows) ∨
      (∃ t y y', s.obs o = some (some (.bx false t y)) ∧ (o, some (.bx false t y')) ∈ boxWr m.bxs vs ∧ (p, .bx false t y') ∈ cFin f ccaps mi args i vs) ∨
      ∃ ob ob', s.obs o = some (some ob) ∧ (isBv ob = true ∨ isMm ob = true) ∧ (p, ob') ∈ cFin f ccaps mi args i vs ∧ Twin m.ren f caps ccaps ob ob'

theorem pid_ne_qid {i j : Nat} : pid i ≠ qid j := by unfold pid qid; omega
theorem matchK_sound {cx : Cx} {s : ASt} {f : Nat} {caps ccaps : List SV} {mi : MInv} : ∀ {args : List AK} {i : Nat} {as : List AV} {m : Mt}, matchK cx s f caps args i as = some m → allP m.eqs → (∀ a ∈ m.mms, a = mi) → MatchF cx s f caps ccaps mi args i as m
  | [], i, [], m, h, _, _ => by
    simp only [matchK, Option.some.injEq] at h
    subst h
    refine ⟨trivial, fun _ _ h => (by cases h), fun _ _ h => (by cases h), List.nodup_nil, rfl, fun _ h => (by cases h), fun _ h => (by cases h), fun _ => List.nodup_nil, fun vs hv => ?_⟩
    cases vs with
    | cons _ _ => simp [AK.boxes] at hv
    | nil => exact ⟨fun _ _ h => (by cases h), .slnil, rfl, fun _ _ h => by cases h⟩
  | [], _, _ :: _, _, h, _, _ => by cases h
  | _ :: _, _, [], _, h, _, _ => by cases h
  | k :: r, i, x :: xs, m, h, he, hm => by
    simp only [matchK] at h
    split at h
    · cases h
    · rename_i m' hm'
      cases k with
      | d t =>
        simp only at h
        split at h
        · rename_i v hv
          simp only [Option.some.injEq] at h
          subst h
          have F := matchK_sound (ccaps := ccaps) hm' he hm
          refine ⟨⟨.d hv List.mem_cons_self, F.vals.mono fun _ _ h => h.mono (fun _ h => h) (fun _ h => List.mem_cons_of_mem _ h) (fun _ h => h)⟩, F.obs, fun p ob hp => ?_, F.nodup, F.rkeys, F.rows, F.bxs, F.bnd, F.fin⟩
          obtain ⟨j, h1, h2⟩ := F.keys p ob hp
          exact ⟨j, by omega, h2⟩
        · cases h
      | row e t =>
        have add : ∀ (t' : Ty) (l : List t'.D) (oo : Option Nat) (rows : List Nat), (∀ o ∈ rows, oo = some o) → (∀ o, oo = some o → o ∈ rows ∧ s.obs o = some (some (.row false e t' l))) → (oo = none → l = []) →
            VTw cx s ((pid i, oo) :: m'.ren) m'.sol ((pid i, Ob.row false e t' l) :: cObs f ccaps mi r (i + 1) m'.dvs) x (.os (pid i)) → allP m'.eqs → (∀ a ∈ m'.mms, a = mi) →
            MatchF cx s f caps ccaps mi (.row e t :: r) i (x :: xs) { m' with dvs := ⟨.sl t', l⟩ :: m'.dvs, ren := (pid i, oo) :: m'.ren, rows := rows ++ m'.rows } := by
          intro t' l oo rows hr1 hr2 hr3 hvt he hm
          have F := matchK_sound (ccaps := ccaps) hm' he hm
          have hnew : pid i ∉ (cObs f ccaps mi r (i + 1) m'.dvs).map (·.1) := by
            intro hmem
            obtain ⟨⟨p, ob⟩, hp, e1⟩ := List.mem_map.1 hmem
            have e1 : p = pid i := e1
            obtain ⟨j, h1, h2⟩ := F.keys p ob hp
            rcases h2 with h2 | h2
            · rw [e1] at h2; unfold pid at h2; omega
            · rw [e1] at h2; exact pid_ne_qid h2
          refine ⟨⟨hvt, F.vals.mono fun _ _ h => h.mono (fun _ h => List.mem_cons_of_mem _ h) (fun _ h => h) (fun _ h => List.mem_cons_of_mem _ h)⟩, ?_, ?_, List.nodup_cons.2 ⟨hnew, F.nodup⟩, ?_, ?_, ?_, ?_, ?_⟩
          · intro p ob' hp
            rcases List.mem_cons.1 hp with hp | hp
            · cases hp
              cases oo with
              | none => exact .inr ⟨List.mem_cons_self, e, t', by rw [hr3 rfl]⟩
              | some o => exact .inl ⟨o, _, List.mem_cons_self, (hr2 o rfl).2, rfl, rfl⟩
            · rcases F.obs p ob' hp with ⟨o, ob, h1, h2, h3⟩ | ⟨h1, h2⟩
              · exact .inl ⟨o, ob, List.mem_cons_of_mem _ h1, h2, h3.mono fun _ h => List.mem_cons_of_mem _ h⟩
              · exact .inr ⟨List.mem_cons_of_mem _ h1, h2⟩
          · intro p ob' hp
            rcases List.mem_cons.1 hp with hp | hp
            · cases hp; exact ⟨i, Nat.le_refl _, .inl rfl⟩
            · obtain ⟨j, h1, h2⟩ := F.keys p ob' hp
              exact ⟨j, by omega, h2⟩
          · show pid i :: m'.ren.map (·.1) = pid i :: _
            rw [F.rkeys]
          · intro o ho
            rcases List.mem_append.1 ho with ho | ho
            · have := hr1 o ho
              exact ⟨⟨pid i, by rw [this]; exact List.mem_cons_self⟩, _, _, _, (hr2 o this).2⟩
            · obtain ⟨⟨p, h1⟩, h2⟩ := F.rows o ho
              exact ⟨⟨p, List.mem_cons_of_mem _ h1⟩, h2⟩
          · intro o ho
            obtain ⟨⟨p, h1⟩, h2⟩ := F.bxs o ho
            exact ⟨⟨p, List.mem_cons_of_mem _ h1⟩, h2⟩
          · intro hn
            apply F.bnd
            cases oo with
            | none => exact hn
            | some o => exact (List.nodup_cons.1 hn).2
          · intro vs hvs
            obtain ⟨g1, g2, g3, g4⟩ := F.fin vs hvs
            refine ⟨fun p ob' hp => ?_, List.Sublist.cons _ g2, g3, ?_⟩
            · obtain ⟨o, ho⟩ := g1 p ob' hp
              exact ⟨o, List.mem_cons_of_mem _ ho⟩
            · intro p o hp
              rcases List.mem_cons.1 hp with hp | hp
              · simp only [Prod.mk.injEq] at hp
                exact .inl (List.mem_append.2 (.inl (hr2 o hp.2.symm).1))
              · rcases g4 p o hp with h1 | h1 | ⟨ob, ob', h1, h2, h3, h4⟩
                · exact .inl (List.mem_append.2 (.inr h1))
                · exact .inr (.inl h1)
                · exact .inr (.inr ⟨ob, ob', h1, h2, h3, h4.mono fun _ h => List.mem_cons_of_mem _ h⟩)
        simp only at h
        split at h
        · rename_i e' t'
          obtain ⟨hc, h⟩ := cond_opt' h
          subst h
          simp only [Bool.and_eq_true] at hc
          have e1 := Nat.eq_of_beq_eq_true hc.1
          subst e1
          exact add t' [] none [] (fun _ h => by cases h) (fun _ h => by cases h) (fun _ => rfl) (.nl List.mem_cons_self List.mem_cons_self) he hm
        · rename_i o
          split at h
          · rename_i e' t' l ho
            obtain ⟨hc, h⟩ := cond_opt' h
            subst h
            simp only [Bool.and_eq_true] at hc
            have e1 := Nat.eq_of_beq_eq_true hc.1
            subst e1
            exact add t' l (some o) [o] (fun o' h => by rw [List.mem_singleton.1 h]) (fun o' h => by cases h; exact ⟨List.mem_cons_self, ho⟩) (fun h => by cases h) (.os List.mem_cons_self ho List.mem_cons_self) he hm
          · cases h
        · cases h
      | box t =>
        simp only at h
        split at h
        · rename_i o
          split at h
          · rename_i t' y ho
            obtain ⟨hc, h⟩ := cond_opt' h
            subst h
            have e1 := Ty.beq_eq hc
            subst e1
            have F := matchK_sound (ccaps := ccaps) hm' he hm
            have hnew : pid i ∉ (cObs f ccaps mi r (i + 1) m'.dvs).map (·.1) := by
              intro hmem
              obtain ⟨⟨p, ob⟩, hp, e1⟩ := List.mem_map.1 hmem
              have e1 : p = pid i := e1
              obtain ⟨j, h1, h2⟩ := F.keys p ob hp
              rcases h2 with h2 | h2
              · rw [e1] at h2; unfold pid at h2; omega
              · rw [e1] at h2; exact pid_ne_qid h2
            refine ⟨⟨.ptr List.mem_cons_self ho List.mem_cons_self (.inr ⟨_, _, rfl, rfl⟩), F.vals.mono fun _ _ h => h.mono (fun _ h => List.mem_cons_of_mem _ h) (fun _ h => h) (fun _ h => List.mem_cons_of_mem _ h)⟩, ?_, ?_, List.nodup_cons.2 ⟨hnew, F.nodup⟩, ?_, ?_, ?_, ?_, ?_⟩
            · intro p ob' hp
              rcases List.mem_cons.1 hp with hp | hp
              · cases hp
                exact .inl ⟨o, _, List.mem_cons_self, ho, rfl, rfl⟩
              · rcases F.obs p ob' hp with ⟨o, ob, h1, h2, h3⟩ | ⟨h1, h2⟩
                · exact .inl ⟨o, ob, List.mem_cons_of_mem _ h1, h2, h3.mono fun _ h => List.mem_cons_of_mem _ h⟩
                · exact .inr ⟨List.mem_cons_of_mem _ h1, h2⟩
            · intro p ob' hp
              rcases List.mem_cons.1 hp with hp | hp
              · cases hp; exact ⟨i, Nat.le_refl _, .inl rfl⟩
              · obtain ⟨j, h1, h2⟩ := F.keys p ob' hp
                exact ⟨j, by omega, h2⟩
            · show pid i :: m'.ren.map (·.1) = pid i :: _
              rw [F.rkeys]
            · intro o ho
              obtain ⟨⟨p, h1⟩, h2⟩ := F.rows o ho
              exact ⟨⟨p, List.mem_cons_of_mem _ h1⟩, h2⟩
            · intro o' ho'
              rcases List.mem_cons.1 ho' with rfl | ho'
              · exact ⟨⟨pid i, List.mem_cons_self⟩, _, _, ho⟩
              · obtain ⟨⟨p, h1⟩, h2⟩ := F.bxs o' ho'
                exact ⟨⟨p, List.mem_cons_of_mem _ h1⟩, h2⟩
            · intro hn
              have hn := List.nodup_cons.1 (show (o :: m'.ren.filterMap (·.2)).Nodup from hn)
              refine List.nodup_cons.2 ⟨fun hmem => hn.1 ?_, F.bnd hn.2⟩
              obtain ⟨⟨p, h1⟩, _⟩ := F.bxs o hmem
              exact List.mem_filterMap.2 ⟨_, h1, rfl⟩
            · intro vs hvs
              cases vs with
              | nil => simp [AK.boxes] at hvs
              | cons v vs =>
                obtain ⟨tv, xv⟩ := v
                simp only [List.map_cons, AK.boxes, List.cons.injEq] at hvs
                obtain ⟨e2, hvs⟩ := hvs
                subst e2
                obtain ⟨g1, g2, g3, g4⟩ := F.fin vs hvs
                refine ⟨fun p ob' hp => ?_, ?_, ?_, ?_⟩
                · rcases List.mem_cons.1 hp with hp | hp
                  · cases hp; exact ⟨o, List.mem_cons_self⟩
                  · obtain ⟨o, ho⟩ := g1 p ob' hp
                    exact ⟨o, List.mem_cons_of_mem _ ho⟩
                · exact List.Sublist.cons_cons _ g2
                · show o :: (boxWr m'.bxs vs).map (·.1) = _
                  rw [g3]
                · intro p o' hp
                  rcases List.mem_cons.1 hp with hp | hp
                  · cases hp
                    exact .inr (.inl ⟨tv, y, xv, ho, List.mem_cons_self, List.mem_cons_self⟩)
                  · rcases g4 p o' hp with h1 | ⟨t1, y1, y2, h1, h2, h3⟩ | ⟨ob, ob', h1, h2, h3, h4⟩
                    · exact .inl h1
                    · exact .inr (.inl ⟨t1, y1, y2, h1, List.mem_cons_of_mem _ h2, List.mem_cons_of_mem _ h3⟩)
                    · exact .inr (.inr ⟨ob, ob', h1, h2, List.mem_cons_of_mem _ h3, h4.mono fun _ h => List.mem_cons_of_mem _ h⟩)
          · cases h
        · cases h
      | mem =>
        simp only at h
        split at h
        · rename_i o
          split at h
          · rename_i q ho
            split at h
            · rename_i tk tv inv hq
              simp only [Option.some.injEq] at h
              subst h
              have hmi : MInv.mk tk tv inv = mi := hm _ List.mem_cons_self
              subst hmi
              have F := matchK_sound (ccaps := ccaps) hm' he (fun a ha => hm a (List.mem_cons_of_mem _ ha))
              have hnew : ∀ p, (p = pid i ∨ p = qid i) → p ∉ (cObs f ccaps ⟨tk, tv, inv⟩ r (i + 1) m'.dvs).map (·.1) := by
                intro p hpi hmem
                obtain ⟨⟨p', ob⟩, hp, e1⟩ := List.mem_map.1 hmem
                have e1 : p' = p := e1
                obtain ⟨j, h1, h2⟩ := F.keys p' ob hp
                rw [e1] at h2
                unfold pid qid at *; omega
              refine ⟨⟨.ptr List.mem_cons_self ho List.mem_cons_self (.inl ⟨rfl, rfl⟩), F.vals.mono fun _ _ h => h.mono (fun _ h => List.mem_cons_of_mem _ (List.mem_cons_of_mem _ h)) (fun _ h => h) (fun _ h => List.mem_cons_of_mem _ (List.mem_cons_of_mem _ h))⟩, ?_, ?_,
                List.nodup_cons.2 ⟨?_, List.nodup_cons.2 ⟨hnew _ (.inr rfl), F.nodup⟩⟩, ?_, ?_, ?_, ?_, ?_⟩
              · intro p ob' hp
                rcases List.mem_cons.1 hp with hp | hp
                · cases hp
                  exact .inl ⟨o, _, List.mem_cons_self, ho, qid i, rfl, List.mem_cons_of_mem _ List.mem_cons_self⟩
                · rcases List.mem_cons.1 hp with hp | hp
                  · cases hp
                    exact .inl ⟨q, _, List.mem_cons_of_mem _ List.mem_cons_self, hq, rfl⟩
                  · rcases F.obs p ob' hp with ⟨o, ob, h1, h2, h3⟩ | ⟨h1, h2⟩
                    · exact .inl ⟨o, ob, List.mem_cons_of_mem _ (List.mem_cons_of_mem _ h1), h2, h3.mono fun _ h => List.mem_cons_of_mem _ (List.mem_cons_of_mem _ h)⟩
                    · exact .inr ⟨List.mem_cons_of_mem _ (List.mem_cons_of_mem _ h1), h2⟩
              · intro p ob' hp
                rcases List.mem_cons.1 hp with hp | hp
                · cases hp; exact ⟨i, Nat.le_refl _, .inl rfl⟩
                · rcases List.mem_cons.1 hp with hp | hp
                  · cases hp; exact ⟨i, Nat.le_refl _, .inr rfl⟩
                  · obtain ⟨j, h1, h2⟩ := F.keys p ob' hp
                    exact ⟨j, by omega, h2⟩
              · show pid i ∉ qid i :: _
                simp only [List.mem_cons, not_or]
                exact ⟨pid_ne_qid, hnew _ (.inl rfl)⟩
              · show pid i :: qid i :: m'.ren.map (·.1) = pid i :: qid i :: _
                rw [F.rkeys]
              · intro o ho
                obtain ⟨⟨p, h1⟩, h2⟩ := F.rows o ho
                exact ⟨⟨p, List.mem_cons_of_mem _ (List.mem_cons_of_mem _ h1)⟩, h2⟩
              · intro o' ho'
                obtain ⟨⟨p, h1⟩, h2⟩ := F.bxs o' ho'
                exact ⟨⟨p, List.mem_cons_of_mem _ (List.mem_cons_of_mem _ h1)⟩, h2⟩
              · intro hn
                exact F.bnd (List.nodup_cons.1 (List.nodup_cons.1 (show (o :: q :: m'.ren.filterMap (·.2)).Nodup from hn)).2).2
              · intro vs hvs
                obtain ⟨g1, g2, g3, g4⟩ := F.fin vs hvs
                refine ⟨fun p ob' hp => ?_, List.Sublist.cons_cons _ (List.Sublist.cons_cons _ g2), g3, ?_⟩
                · rcases List.mem_cons.1 hp with hp | hp
                  · cases hp; exact ⟨o, List.mem_cons_self⟩
                  · rcases List.mem_cons.1 hp with hp | hp
                    · cases hp; exact ⟨q, List.mem_cons_of_mem _ List.mem_cons_self⟩
                    · obtain ⟨o, ho⟩ := g1 p ob' hp
                      exact ⟨o, List.mem_cons_of_mem _ (List.mem_cons_of_mem _ ho)⟩
                · intro p o' hp
                  rcases List.mem_cons.1 hp with hp | hp
                  · cases hp
                    exact .inr (.inr ⟨_, _, ho, .inl rfl, List.mem_cons_self, qid i, rfl, List.mem_cons_of_mem _ List.mem_cons_self⟩)
                  · rcases List.mem_cons.1 hp with hp | hp
                    · cases hp
                      exact .inr (.inr ⟨_, _, hq, .inr rfl, List.mem_cons_of_mem _ List.mem_cons_self, rfl⟩)
                    · rcases g4 p o' hp with h1 | ⟨t1, y1, y2, h1, h2, h3⟩ | ⟨ob, ob', h1, h2, h3, h4⟩
                      · exact .inl h1
                      · exact .inr (.inl ⟨t1, y1, y2, h1, h2, List.mem_cons_of_mem _ (List.mem_cons_of_mem _ h3)⟩)
                      · exact .inr (.inr ⟨ob, ob', h1, h2, List.mem_cons_of_mem _ (List.mem_cons_of_mem _ h3), h4.mono fun _ h => List.mem_cons_of_mem _ (List.mem_cons_of_mem _ h)⟩)
            · cases h
          · cases h
        · cases h
      | self =>
        simp only at h
        split at h
        · rename_i o
          split at h
          · rename_i f' caps' ho
            split at h
            · rename_i l hf hl
              simp only [Option.some.injEq] at h
              subst h
              obtain ⟨he1, he2⟩ := allP_append he
              have e1 := Nat.eq_of_beq_eq_true hf
              subst e1
              have e2 := eqSVs_eq hl he1
              subst e2
              have F := matchK_sound (ccaps := ccaps) hm' he2 hm
              have hnew : pid i ∉ (cObs f' ccaps mi r (i + 1) m'.dvs).map (·.1) := by
                intro hmem
                obtain ⟨⟨p, ob⟩, hp, e1⟩ := List.mem_map.1 hmem
                have e1 : p = pid i := e1
                obtain ⟨j, h1, h2⟩ := F.keys p ob hp
                rcases h2 with h2 | h2
                · rw [e1] at h2; unfold pid at h2; omega
                · rw [e1] at h2; exact pid_ne_qid h2
              refine ⟨⟨.ptr List.mem_cons_self ho List.mem_cons_self (.inl ⟨rfl, rfl⟩), F.vals.mono fun _ _ h => h.mono (fun _ h => List.mem_cons_of_mem _ h) (fun _ h => h) (fun _ h => List.mem_cons_of_mem _ h)⟩, ?_, ?_, List.nodup_cons.2 ⟨hnew, F.nodup⟩, ?_, ?_, ?_, ?_, ?_⟩
              · intro p ob' hp
                rcases List.mem_cons.1 hp with hp | hp
                · cases hp
                  exact .inl ⟨o, _, List.mem_cons_self, ho, rfl, rfl, rfl⟩
                · rcases F.obs p ob' hp with ⟨o, ob, h1, h2, h3⟩ | ⟨h1, h2⟩
                  · exact .inl ⟨o, ob, List.mem_cons_of_mem _ h1, h2, h3.mono fun _ h => List.mem_cons_of_mem _ h⟩
                  · exact .inr ⟨List.mem_cons_of_mem _ h1, h2⟩
              · intro p ob' hp
                rcases List.mem_cons.1 hp with hp | hp
                · cases hp; exact ⟨i, Nat.le_refl _, .inl rfl⟩
                · obtain ⟨j, h1, h2⟩ := F.keys p ob' hp
                  exact ⟨j, by omega, h2⟩
              · show pid i :: m'.ren.map (·.1) = pid i :: _
                rw [F.rkeys]
              · intro o ho
                obtain ⟨⟨p, h1⟩, h2⟩ := F.rows o ho
                exact ⟨⟨p, List.mem_cons_of_mem _ h1⟩, h2⟩
              · intro o' ho'
                obtain ⟨⟨p, h1⟩, h2⟩ := F.bxs o' ho'
                exact ⟨⟨p, List.mem_cons_of_mem _ h1⟩, h2⟩
              · intro hn
                exact F.bnd (List.nodup_cons.1 (show (o :: m'.ren.filterMap (·.2)).Nodup from hn)).2
              · intro vs hvs
                obtain ⟨g1, g2, g3, g4⟩ := F.fin vs hvs
                refine ⟨fun p ob' hp => ?_, List.Sublist.cons_cons _ g2, g3, ?_⟩
                · rcases List.mem_cons.1 hp with hp | hp
                  · cases hp; exact ⟨o, List.mem_cons_self⟩
                  · obtain ⟨o, ho⟩ := g1 p ob' hp
                    exact ⟨o, List.mem_cons_of_mem _ ho⟩
                · intro p o' hp
                  rcases List.mem_cons.1 hp with hp | hp
                  · cases hp
                    exact .inr (.inr ⟨_, _, ho, .inl rfl, List.mem_cons_self, rfl, rfl, rfl⟩)
                  · rcases g4 p o' hp with h1 | ⟨t1, y1, y2, h1, h2, h3⟩ | ⟨ob, ob', h1, h2, h3, h4⟩
                    · exact .inl h1
                    · exact .inr (.inl ⟨t1, y1, y2, h1, h2, List.mem_cons_of_mem _ h3⟩)
                    · exact .inr (.inr ⟨ob, ob', h1, h2, List.mem_cons_of_mem _ h3, h4.mono fun _ h => List.mem_cons_of_mem _ h⟩)
            · cases h
          · cases h
        · cases h
end Go.Sx

/-
  The symbolic layer, part 17d: calls that are lent objects: there and back.
-/

namespace Go.Sx

theorem nodup_of : ∀ {l : List Nat}, nodupN l = true → l.Nodup
  | [], _ => List.nodup_nil
  | a :: l, h => by
    simp only [nodupN, Bool.and_eq_true, Bool.not_eq_true'] at h
    refine List.nodup_cons.2 ⟨fun hm => ?_, nodup_of h.2⟩
    have : memN a l = true := by
      clear h
      induction l with
      | nil => cases hm
      | cons b l ih =>
        rcases List.mem_cons.1 hm with rfl | hm
        · simp [memN, Nat.beq_refl]
        · simp [memN, ih hm]
    rw [this] at h; cases h.1
theorem memN_mem {a : Nat} : ∀ {l : List Nat}, a ∈ l → memN a l = true
  | b :: l, h => by
    rcases List.mem_cons.1 h with rfl | h
    · simp [memN, Nat.beq_refl]
    · simp [memN, memN_mem h]
theorem disjN_not {a b : List Nat} (h : disjN a b = true) {x : Nat} (h1 : x ∈ a) (h2 : x ∈ b) : False := by
  simp only [disjN, List.all_eq_true, Bool.not_eq_true'] at h
  have := h x h1
  rw [memN_mem h2] at this; cases this

theorem obsOf_mem : ∀ {l : List (Nat × Ob)} {p : Nat} {ob : Ob}, obsOf l p = some (some ob) → (p, ob) ∈ l
  | [], _, _, h => by cases h
  | (k, o') :: l, p, ob, h => by
    simp only [obsOf] at h
    cases hb : Nat.beq p k with
    | true =>
      rw [hb] at h
      have := Nat.eq_of_beq_eq_true hb
      subst this
      cases h; exact List.mem_cons_self
    | false => rw [hb] at h; exact List.mem_cons_of_mem _ (obsOf_mem h)
theorem obsOf_of : ∀ {l : List (Nat × Ob)} {p : Nat} {ob : Ob}, (l.map (·.1)).Nodup → (p, ob) ∈ l → obsOf l p = some (some ob)
  | (k, o') :: l, p, ob, hn, h => by
    have hn := List.nodup_cons.1 (show (k :: l.map (·.1)).Nodup from hn)
    simp only [obsOf]
    rcases List.mem_cons.1 h with h | h
    · cases h; simp [Nat.beq_refl]
    · have hne : p ≠ k := fun e => hn.1 (e ▸ List.mem_map.2 ⟨_, h, rfl⟩)
      rw [beq_ne hne]
      exact obsOf_of hn.2 h
theorem obsOf_form : ∀ {l : List (Nat × Ob)} {p : Nat} {r : Option Ob}, obsOf l p = some r → ∃ ob, r = some ob
  | [], _, _, h => by cases h
  | (k, o') :: l, p, r, h => by
    simp only [obsOf] at h
    cases hb : Nat.beq p k with
    | true => rw [hb] at h; cases h; exact ⟨_, rfl⟩
    | false => rw [hb] at h; exact obsOf_form h

/-- Where the callee sees what it is lent. -/
def bOf (β : Nat → Loc) : List (Nat × Option Nat) → Nat → Loc
  | [], _ => ⟨none, .slice none 0 0⟩
  | (k, oo) :: r, p => cond (Nat.beq p k) (match oo with | some o => β o | none => ⟨none, .slice none 0 0⟩) (bOf β r p)
theorem bOf_of {β : Nat → Loc} : ∀ {l : List (Nat × Option Nat)} {p : Nat} {oo : Option Nat}, (l.map (·.1)).Nodup → (p, oo) ∈ l → bOf β l p = match oo with | some o => β o | none => ⟨none, .slice none 0 0⟩
  | (k, o') :: l, p, oo, hn, h => by
    have hn := List.nodup_cons.1 (show (k :: l.map (·.1)).Nodup from hn)
    simp only [bOf]
    rcases List.mem_cons.1 h with h | h
    · cases h; simp [Nat.beq_refl]
    · have hne : p ≠ k := fun e => hn.1 (e ▸ List.mem_map.2 ⟨_, h, rfl⟩)
      rw [beq_ne hne]
      exact bOf_of hn.2 h

def isBx : Ob → Bool
  | .bx _ _ _ => true
  | _ => false
theorem sim0 {ob : Ob} (h : isBv ob = true ∨ isBx ob = true) : inOb ob [] ∧ obPos ob [] = some 0 := by
  cases ob with
  | bx f t x =>
    refine ⟨by show inP t []; cases t <;> trivial, ?_⟩
    have e : offP t [] = some (0, t) := by cases t <;> rfl
    simp [obPos, e]
  | bv v => exact ⟨trivial, rfl⟩
  | row _ _ _ _ => rcases h with h | h <;> cases h
  | mm _ _ _ => rcases h with h | h <;> cases h
  | gh _ _ => rcases h with h | h <;> cases h
  | bp _ _ _ _ => rcases h with h | h <;> cases h

section
variable {P : Program} {cx : Cx} {sA sB : ASt} {βA βB : Nat → Loc} {w : World} {MA MB : Nat → Prop} {ren : List (Nat × Option Nat)} {f : Nat} {caps ccaps : List SV}

/-- What a closure has captured, seen from both sides. -/
inductive CapTw (sA sB : ASt) (βA βB : Nat → Loc) : SV → SV → Prop
  | d {t : Ty} {x : t.D} : CapTw sA sB βA βB (.d t x) (.d t x)
  | ptr {o p : Nat} (hb : βB p = βA o) (h1 : ∃ ob, sA.obs o = some (some ob) ∧ (isBv ob = true ∨ isBx ob = true)) (h2 : ∃ ob, sB.obs p = some (some ob) ∧ (isBv ob = true ∨ isBx ob = true)) : CapTw sA sB βA βB (.ptr o []) (.ptr p [])
theorem CapTw.fwd (hsub : ∀ b, b < w.heap.size → MB b → MA b) {c cc : SV} (h : CapTw sA sB βA βB c cc) {u : Value} (hr : SVRep P sA βA w MA c u) : SVRep P sB βB w MB cc u := by
  cases h with
  | d => exact VRep.sub hr hsub
  | ptr hb h1 h2 =>
    obtain ⟨ob, h1, k1⟩ := h1
    obtain ⟨ob', h2, k2⟩ := h2
    simp only [SVRep, h1] at hr
    simp only [SVRep, h2, hb]
    obtain ⟨_, b, off, g1, g2, g3⟩ := hr
    rw [(sim0 k1).2] at g2
    exact ⟨(sim0 k2).1, b, off, g1, by rw [(sim0 k2).2]; exact g2, g3⟩
theorem CapTw.bwd (hsub : ∀ b, b < w.heap.size → MA b → MB b) {c cc : SV} (h : CapTw sA sB βA βB c cc) {u : Value} (hr : SVRep P sB βB w MB cc u) : SVRep P sA βA w MA c u := by
  cases h with
  | d => exact VRep.sub hr hsub
  | ptr hb h1 h2 =>
    obtain ⟨ob, h1, k1⟩ := h1
    obtain ⟨ob', h2, k2⟩ := h2
    simp only [SVRep, h2, hb] at hr
    simp only [SVRep, h1]
    obtain ⟨_, b, off, g1, g2, g3⟩ := hr
    rw [(sim0 k2).2] at g2
    exact ⟨(sim0 k1).1, b, off, g1, by rw [(sim0 k1).2]; exact g2, g3⟩
theorem capTws_fwd (hsub : ∀ b, b < w.heap.size → MB b → MA b) : ∀ {c cc : List SV} {us : List Value}, All2 (CapTw sA sB βA βB) c cc → All2 (SVRep P sA βA w MA) c us → All2 (SVRep P sB βB w MB) cc us
  | [], [], [], _, _ => trivial
  | _ :: _, _ :: _, _ :: _, h, h' => ⟨h.1.fwd hsub h'.1, capTws_fwd hsub h.2 h'.2⟩
  | [], _ :: _, _, h, _ => h.elim
  | _ :: _, [], _, h, _ => h.elim
  | [], [], _ :: _, _, h => h.elim
  | _ :: _, _ :: _, [], _, h => h.elim
theorem capTws_bwd (hsub : ∀ b, b < w.heap.size → MA b → MB b) : ∀ {c cc : List SV} {us : List Value}, All2 (CapTw sA sB βA βB) c cc → All2 (SVRep P sB βB w MB) cc us → All2 (SVRep P sA βA w MA) c us
  | [], [], [], _, _ => trivial
  | _ :: _, _ :: _, _ :: _, h, h' => ⟨h.1.bwd hsub h'.1, capTws_bwd hsub h.2 h'.2⟩
  | [], _ :: _, _, h, _ => h.elim
  | _ :: _, [], _, h, _ => h.elim
  | [], [], _ :: _, _, h => h.elim
  | _ :: _, _ :: _, [], _, h => h.elim

theorem twin_fwd (hsub : ∀ b, b < w.heap.size → MB b → MA b) (hmp : ∀ p q, (p, some q) ∈ ren → βB p = βA q ∧ ∀ ob, sA.obs q = some (some ob) → isMm ob = true → ∃ ob', sB.obs p = some (some ob') ∧ isMm ob' = true) (hl : ∀ p q, (p, some q) ∈ ren → ∃ ob, sA.obs q = some (some ob))
    (hcl : All2 (CapTw sA sB βA βB) caps ccaps) {L : Loc} {obA obB : Ob} (ht : Twin ren f caps ccaps obA obB) (h : ObRep P sA βA w MA L obA) : ObRep P sB βB w MB L obB := by
  have htr : Tr MA w MB w := ⟨.refl _ _, fun b hb hm => hsub b hb hm⟩
  cases obA with
  | gh _ _ => exact ht.elim
  | bp _ _ _ _ => exact ht.elim
  | bx z t x =>
    obtain ⟨rfl, rfl⟩ := ht
    obtain ⟨b, vs, e, h1, h2, h3⟩ := h
    exact ⟨b, vs, e, h1, h2, h3.tr htr⟩
  | row z e t l =>
    obtain ⟨rfl, rfl⟩ := ht
    obtain ⟨h1, h2, vss, h3, h4⟩ := h
    exact ⟨h1, h2, vss, h3.mono fun _ _ h => h.tr htr, h4⟩
  | mm tk tv inv =>
    have ht : obB = _ := ht
    subst ht
    obtain ⟨b, es, ck, h1, h2, h3⟩ := h
    refine ⟨b, es, ck, h1, h2, fun e he => ?_⟩
    obtain ⟨x, y, g1, g2, g3⟩ := h3 e he
    exact ⟨x, y, g1.tr htr, g2.tr htr, g3⟩
  | bv v =>
    cases v with
    | s v =>
      cases v with
      | mp q =>
        obtain ⟨p, rfl, hp⟩ := ht
        obtain ⟨b, u, e, h1, h2, h3⟩ := h
        refine ⟨b, u, e, h1, h2, ?_⟩
        obtain ⟨ob, hob⟩ := hl p q hp
        simp only [AVRep, SVRep, hob] at h3
        obtain ⟨k1, k2⟩ := hmp p q hp
        obtain ⟨ob', g1, g2⟩ := k2 ob hob h3.1
        simp only [AVRep, SVRep, g1, k1]
        exact ⟨g2, h3.2⟩
      | _ => exact ht.elim
    | clo f' c =>
      obtain ⟨rfl, rfl, rfl⟩ := ht
      obtain ⟨b, u, e, h1, h2, vs, h3, h4⟩ := h
      refine ⟨b, u, e, h1, h2, vs, h3, ?_⟩
      exact capTws_fwd hsub hcl h4
    | _ => exact ht.elim
theorem twin_bwd (hsub : ∀ b, b < w.heap.size → MA b → MB b) (hcl : All2 (CapTw sA sB βA βB) caps ccaps) {L : Loc} {obA obB : Ob} (ht : Twin ren f caps ccaps obA obB)
    (hmp : ∀ p q, obA = .bv (.s (.mp q)) → (p, some q) ∈ ren → βB p = βA q ∧ ∃ ob ob', sB.obs p = some (some ob) ∧ sA.obs q = some (some ob') ∧ isMm ob' = true) (h : ObRep P sB βB w MB L obB) : ObRep P sA βA w MA L obA := by
  have htr : Tr MB w MA w := ⟨.refl _ _, fun b hb hm => hsub b hb hm⟩
  cases obA with
  | gh _ _ => exact ht.elim
  | bp _ _ _ _ => exact ht.elim
  | bx z t x =>
    obtain ⟨rfl, rfl⟩ := ht
    obtain ⟨b, vs, e, h1, h2, h3⟩ := h
    exact ⟨b, vs, e, h1, h2, h3.tr htr⟩
  | row z e t l =>
    obtain ⟨rfl, rfl⟩ := ht
    obtain ⟨h1, h2, vss, h3, h4⟩ := h
    exact ⟨h1, h2, vss, h3.mono fun _ _ h => h.tr htr, h4⟩
  | mm tk tv inv =>
    have ht : obB = _ := ht
    subst ht
    obtain ⟨b, es, ck, h1, h2, h3⟩ := h
    refine ⟨b, es, ck, h1, h2, fun e he => ?_⟩
    obtain ⟨x, y, g1, g2, g3⟩ := h3 e he
    exact ⟨x, y, g1.tr htr, g2.tr htr, g3⟩
  | bv v =>
    cases v with
    | s v =>
      cases v with
      | mp q =>
        obtain ⟨p, rfl, hp⟩ := ht
        obtain ⟨b, u, e, h1, h2, h3⟩ := h
        refine ⟨b, u, e, h1, h2, ?_⟩
        obtain ⟨k1, ob, ob', hob, g1, g2⟩ := hmp p q rfl hp
        simp only [AVRep, SVRep, hob] at h3
        simp only [AVRep, SVRep, g1]
        exact ⟨g2, by rw [← k1]; exact h3.2⟩
      | _ => exact ht.elim
    | clo f' c =>
      obtain ⟨rfl, rfl, rfl⟩ := ht
      obtain ⟨b, u, e, h1, h2, vs, h3, h4⟩ := h
      refine ⟨b, u, e, h1, h2, vs, h3, ?_⟩
      exact capTws_bwd hsub hcl h4
    | _ => exact ht.elim
end

theorem matchK_len {cx : Cx} {s : ASt} {f : Nat} {caps : List SV} : ∀ {args : List AK} {i : Nat} {as : List AV} {m : Mt}, matchK cx s f caps args i as = some m → as.length = args.length
  | [], _, [], _, _ => rfl
  | [], _, _ :: _, _, h => by cases h
  | _ :: _, _, [], _, h => by cases h
  | k :: r, i, x :: xs, m, h => by
    simp only [matchK] at h
    split at h
    · cases h
    · rename_i m' hm'
      simp [matchK_len hm']
theorem ren_unique {l : List (Nat × Option Nat)} (hn : (l.map (·.1)).Nodup) {p : Nat} {a b : Option Nat} (h1 : (p, a) ∈ l) (h2 : (p, b) ∈ l) : a = b := by
  induction l with
  | nil => cases h1
  | cons y l ih =>
    have hn := List.nodup_cons.1 (show (y.1 :: l.map (·.1)).Nodup from hn)
    rcases List.mem_cons.1 h1 with e1 | h1 <;> rcases List.mem_cons.1 h2 with e2 | h2
    · rw [← e2] at e1; exact (Prod.mk.inj e1).2
    · exact absurd (List.mem_map.2 ⟨_, h2, by rw [← e1]⟩) hn.1
    · exact absurd (List.mem_map.2 ⟨_, h1, by rw [← e2]⟩) hn.1
    · exact ih hn.2 h1 h2
theorem ren_inj {l : List (Nat × Option Nat)} (hn : (l.filterMap (·.2)).Nodup) {p p' o : Nat} (h1 : (p, some o) ∈ l) (h2 : (p', some o) ∈ l) : p = p' := by
  induction l with
  | nil => cases h1
  | cons y l ih =>
    obtain ⟨q, oo⟩ := y
    cases oo with
    | none =>
      exact ih hn ((List.mem_cons.1 h1).resolve_left (by simp)) ((List.mem_cons.1 h2).resolve_left (by simp))
    | some z =>
      obtain ⟨n1, n2⟩ := List.nodup_cons.1 (show (z :: l.filterMap (·.2)).Nodup from hn)
      rcases List.mem_cons.1 h1 with e1 | m1 <;> rcases List.mem_cons.1 h2 with e2 | m2
      · cases e1; cases e2; rfl
      · cases e1; exact (n1 (List.mem_filterMap.2 ⟨(p', some o), m2, rfl⟩)).elim
      · cases e2; exact (n1 (List.mem_filterMap.2 ⟨(p, some o), m1, rfl⟩)).elim
      · exact ih n2 m1 m2
theorem Twin.open {ren : List (Nat × Option Nat)} {f : Nat} {caps ccaps : List SV} {ob ob' : Ob} (h : Twin ren f caps ccaps ob ob') : obFz ob = false ∧ obFz ob' = false := by
  cases ob with
  | bx _ _ _ => obtain ⟨rfl, rfl⟩ := h; exact ⟨rfl, rfl⟩
  | row _ _ _ _ => obtain ⟨rfl, rfl⟩ := h; exact ⟨rfl, rfl⟩
  | mm _ _ _ => rw [show ob' = _ from h]; exact ⟨rfl, rfl⟩
  | gh _ _ => exact h.elim
  | bp _ _ _ _ => exact h.elim
  | bv v =>
    refine ⟨rfl, ?_⟩
    cases v with
    | s v =>
      cases v with
      | mp q => obtain ⟨p, rfl, _⟩ := h; rfl
      | _ => exact h.elim
    | clo _ _ => rw [h.2.2]; rfl
    | _ => exact h.elim
theorem open_canFz {s : ASt} {x : AV} {q : Nat} (h : q ∈ x.open? s) : ∃ ob, s.obs q = some (some ob) ∧ canFz ob = true := by
  have key : ∀ v : SV, q ∈ v.open? s → ∃ ob, s.obs q = some (some ob) ∧ canFz ob = true := by
    intro v hv
    cases v with
    | d t y => cases hv
    | nl e t => cases hv
    | mp _ => cases hv
    | ptr o p =>
      simp only [SV.open?] at hv
      split at hv <;> simp at hv
      · subst hv; exact ⟨_, ‹_›, rfl⟩
      · subst hv; exact ⟨_, ‹_›, rfl⟩
    | os o =>
      simp only [SV.open?] at hv
      split at hv <;> simp at hv
      subst hv; exact ⟨_, ‹_›, rfl⟩
  cases x with
  | un => cases h
  | yl _ => cases h
  | mv _ _ _ => cases h
  | tup l => cases h
  | s v => exact key v h
  | clo f c =>
    obtain ⟨v, _, hv⟩ := List.mem_flatMap.1 h
    exact key v hv
theorem frO_out {s : ASt} {ids : List Nat} {o : Nat} (h : o ∉ ids) : frO s ids o = s.obs o := by
  unfold frO
  split
  · rename_i ob ho; rw [if_neg h, ho]
  · rfl
theorem rowPut_other {row : Option Nat} {out : List Dv} {os : Nat → Option (Option Ob)} {p : Nat} (h : p ≠ rid) : rowPut row out os p = os p := by
  cases row with
  | none => rfl
  | some e =>
    match out with
    | [] => rfl
    | ⟨t, x⟩ :: r => cases t <;> first | exact put_other _ _ h | rfl
theorem pid_rid {j p : Nat} (h : p = pid j ∨ p = qid j) : p ≠ rid := by unfold pid qid at h; unfold rid; omega
end Go.Sx

/-
  The symbolic layer: interfaces.
-/

namespace Go.Sx

theorem AR_plain {a : Ty} (h : a.argy = true) {us ys : List Value} : AR a us ys ↔ us = [pack a ys] := by
  cases a <;> first | exact Iff.rfl | cases h

/-- A method of a value, as what is said of an interface's. -/
theorem imOne_rep {P : Program} {cx : Cx} (hcx : CxOk P cx) {T : Nat} {nm : String} {v : Dv} {m : Mv} {u : Value} {w : World} {M : Nat → Prop} (h : imOne cx T v nm = some m) (hu : VRep P v.t w M u v.x) :
    ∀ w' N us ys y, ExtL M w w' → AR m.a us ys → Rep P m.a w' N ys y → m.F.pre y →
      ∃ f u', (∀ args w₁, (callMethod (.iface T u) nm args).run P w₁ = .ok (.enter f (#[u'] ++ args)) w₁) ∧ Calls P f (#[u'] ++ us.toArray) w' fun e w'' => ∃ z zs, e = .returned z ∧ Ext noM w' w'' ∧ Rep P m.r w'' (fun _ => True) zs (m.F.val y) ∧ z = pack m.r zs := by
  unfold imOne at h
  split at h
  · cases h
  · rename_i f hf
    have hM := hcx.mth T nm f hf
    split at h
    · rename_i t r pre val hk
      cases hr : r.flat with
      | false => rw [hr] at h; cases h
      | true =>
        rw [hr, cond_true, Option.map_eq_some_iff] at h
        obtain ⟨x, hx, rfl⟩ := h
        intro w' N us ys y hE hAR hy hpre
        have hus : us = [] := hAR
        subst hus
        refine ⟨f, u, fun args w₁ => (hM.call _ _ _).trans ((hcx.con f _ hk).1 _ _), ?_⟩
        have hu' : VRep P t w' (fun b => (M b ∧ N b) ∧ b < w'.heap.size) u x := (castD_vrep hx hu).tr ⟨hE, fun b _ h => h.1.1⟩
        have := (hcx.con f _ hk).2 w' _ [u] x (fun b h => h.2) ⟨u, rfl, hu'⟩ hpre
        have e : (#[u] ++ ([] : List Value).toArray) = [u].toArray := by simp
        rw [e]
        refine this.mono ?_
        rintro e w'' ⟨v, rfl, h1, h2⟩
        obtain ⟨cs, h3, h4⟩ := Rep.top hr h2
        exact ⟨v, cs, rfl, h1, h3, h4⟩
    · rename_i t a r pre val hk
      cases hr : (r.flat && a.argy) with
      | false => rw [hr] at h; cases h
      | true =>
        rw [hr, cond_true, Option.map_eq_some_iff] at h
        obtain ⟨x, hx, rfl⟩ := h
        rw [Bool.and_eq_true] at hr
        intro w' N us ys y hE hAR hy hpre
        have hus := (AR_plain hr.2).1 hAR
        subst hus
        refine ⟨f, u, fun args w₁ => (hM.call _ _ _).trans ((hcx.con f _ hk).1 _ _), ?_⟩
        have hu' : VRep P t w' (fun b => (M b ∧ N b) ∧ b < w'.heap.size) u x := (castD_vrep hx hu).tr ⟨hE, fun b _ h => h.1.1⟩
        have hy' : VRep P a w' (fun b => (M b ∧ N b) ∧ b < w'.heap.size) (pack a ys) y := VRep.sub (M := N) ⟨ys, hy, rfl⟩ fun b _ h => h.1.2
        have := (hcx.con f _ hk).2 w' _ [u, pack a ys] (x, y) (fun b h => h.2) ⟨u, _, rfl, hu', _, rfl, hy'⟩ hpre
        have e : (#[u] ++ [pack a ys].toArray) = [u, pack a ys].toArray := by simp
        rw [e]
        refine this.mono ?_
        rintro e w'' ⟨v, rfl, h1, h2⟩
        obtain ⟨cs, h3, h4⟩ := Rep.top hr.1 h2
        exact ⟨v, cs, rfl, h1, h3, h4⟩
    · rename_i t a b r pre val hk
      cases hr : r.flat with
      | false => rw [hr] at h; cases h
      | true =>
        rw [hr, cond_true, Option.map_eq_some_iff] at h
        obtain ⟨x, hx, rfl⟩ := h
        intro w' N us ys y hE hAR hy hpre
        have hus : us = [pack a (ys.take a.n), pack b (ys.drop a.n)] := hAR
        obtain ⟨c, d, rfl, h1, h2⟩ := hy
        have hc := h1.length
        rw [List.take_left' hc, List.drop_left' hc] at hus
        subst hus
        refine ⟨f, u, fun args w₁ => (hM.call _ _ _).trans ((hcx.con f _ hk).1 _ _), ?_⟩
        have hu' : VRep P t w' (fun b => (M b ∧ N b) ∧ b < w'.heap.size) u x := (castD_vrep hx hu).tr ⟨hE, fun b _ h => h.1.1⟩
        have hy1 : VRep P a w' (fun b => (M b ∧ N b) ∧ b < w'.heap.size) (pack a c) y.1 := VRep.sub (M := N) ⟨c, h1, rfl⟩ fun b _ h => h.1.2
        have hy2 : VRep P b w' (fun b => (M b ∧ N b) ∧ b < w'.heap.size) (pack b d) y.2 := VRep.sub (M := N) ⟨d, h2, rfl⟩ fun b _ h => h.1.2
        have := (hcx.con f _ hk).2 w' _ [u, pack a c, pack b d] (x, y) (fun b h => h.2) ⟨u, _, rfl, hu', _, _, rfl, hy1, _, rfl, hy2⟩ hpre
        have e : (#[u] ++ [pack a c, pack b d].toArray) = [u, pack a c, pack b d].toArray := by simp
        rw [e]
        refine this.mono ?_
        rintro e w'' ⟨v, rfl, h1, h2⟩
        obtain ⟨cs, h3, h4⟩ := Rep.top hr h2
        exact ⟨v, cs, rfl, h1, h3, h4⟩
    · cases h
theorem imMk_rep {P : Program} {cx : Cx} (hcx : CxOk P cx) {T : Nat} {v : Dv} {u : Value} {w : World} {M : Nat → Prop} (hu : VRep P v.t w M u v.x) : ∀ {m : Ty} {d : Dv}, imMk cx T v m = some d → m.isIm = true →
    Rep P d.t w M [.iface T u] d.x ∧ ∃ nm f, cx.mth T nm = some f
  | .im nm a r q, d, h, _ => by
    simp only [imMk] at h
    split at h
    · rename_i m' d' h1 h2
      cases h
      have hmth : ∃ f, cx.mth T nm = some f := by
        unfold imOne at h1
        split at h1
        · cases h1
        · exact ⟨_, ‹_›⟩
      refine ⟨⟨_, rfl, .inr ⟨_, _, rfl⟩, imOne_rep hcx h1 hu, fun _ => ?_, ?_⟩, nm, hmth⟩
      · obtain ⟨f, hf⟩ := hmth
        exact ⟨T, u, rfl, fun w₁ => (hcx.mth T nm f hf).ahead u w₁⟩
      · cases q with
        | u => cases h2; exact .inl rfl
        | im nm' a' r' q' => exact .inr (imMk_rep hcx hu h2 rfl).1
        | _ => cases h2
    · cases h
theorem imGet_rep {P : Program} {w : World} {M : Nat → Prop} {v : Value} {nm : String} {g : Mv} : ∀ {m : Ty} {x : m.D}, Rep P m w M [v] x → imGet m x nm = some g →
    ∀ w' N us ys y, ExtL M w w' → AR g.a us ys → Rep P g.a w' N ys y → g.F.pre y →
      ∃ f u, (∀ args w₁, (callMethod v nm args).run P w₁ = .ok (.enter f (#[u] ++ args)) w₁) ∧ Calls P f (#[u] ++ us.toArray) w' fun e w'' => ∃ z zs, e = .returned z ∧ Ext noM w' w'' ∧ Rep P g.r w'' (fun _ => True) zs (g.F.val y) ∧ z = pack g.r zs
  | .im n a r q, x, h, hg => by
    obtain ⟨v', e, _, hm, _, hq⟩ := h
    cases e
    simp only [imGet] at hg
    cases hn : (n == nm) with
    | true =>
      rw [hn, cond_true, Option.some_inj] at hg
      subst hg
      have := beq_iff_eq.1 hn
      subst this
      exact hm
    | false =>
      rw [hn, cond_false] at hg
      rcases hq with rfl | hq
      · cases hg
      · exact imGet_rep hq hg
  | .i _, _, _, hg => by cases hg
  | .bo, _, _, hg => by cases hg
  | .u, _, _, hg => by cases hg
  | .p _ _, _, _, hg => by cases hg
  | .st _, _, _, hg => by cases hg
  | .sl _, _, _, hg => by cases hg
  | .arr _ _, _, _, hg => by cases hg
  | .ref _, _, _, hg => by cases hg
  | .f1 _ _, _, _, hg => by cases hg
  | .f2 _ _ _, _, _, hg => by cases hg
  | .sq _ _, _, _, hg => by cases hg
theorem imGet_ahead {P : Program} {w : World} {M : Nat → Prop} {v : Value} {nm : String} {g : Mv} : ∀ {m : Ty} {x : m.D}, Rep P m w M [v] x → imGet m x nm = some g →
    (∃ y, g.F.pre y) → ∃ T u, v = .iface T u ∧ ∀ w₁, (nilAhead (P.types.size + Made.depth) T u nm).run P w₁ = .ok (some false) w₁
  | .im n a r q, x, h, hg => by
    obtain ⟨v', e, _, _, hz, hq⟩ := h
    cases e
    simp only [imGet] at hg
    cases hn : (n == nm) with
    | true =>
      rw [hn, cond_true, Option.some_inj] at hg
      subst hg
      have := beq_iff_eq.1 hn
      subst this
      exact hz
    | false =>
      rw [hn, cond_false] at hg
      rcases hq with rfl | hq
      · cases hg
      · exact imGet_ahead hq hg
  | .i _, _, _, hg => by cases hg
  | .bo, _, _, hg => by cases hg
  | .u, _, _, hg => by cases hg
  | .p _ _, _, _, hg => by cases hg
  | .st _, _, _, hg => by cases hg
  | .sl _, _, _, hg => by cases hg
  | .arr _ _, _, _, hg => by cases hg
  | .ref _, _, _, hg => by cases hg
  | .f1 _ _, _, _, hg => by cases hg
  | .f2 _ _ _, _, _, hg => by cases hg
  | .sq _ _, _, _, hg => by cases hg
theorem mkAr_rep {P : Program} {w : World} {M : Nat → Prop} {a : Ty} {us : List Value} {vs : List Dv} {y : a.D} (h : mkAr a vs = some y) (hu : All2 (fun (u : Value) (d : Dv) => VRep P d.t w M u d.x) us vs) : ∃ ys, AR a us ys ∧ Rep P a w M ys y := by
  unfold mkAr at h
  split at h
  · cases us with
    | nil => exact ⟨[], rfl, rfl⟩
    | cons _ _ => exact hu.elim
  · rename_i a b v v'
    split at h
    · rename_i x x' hx hx'
      cases h
      match us, hu with
      | [u, u'], hu =>
        obtain ⟨c, h1, e1⟩ := castD_vrep hx hu.1
        obtain ⟨d, h2, e2⟩ := castD_vrep hx' hu.2.1
        refine ⟨c ++ d, ?_, c, d, rfl, h1, h2⟩
        show [u, u'] = [pack a ((c ++ d).take a.n), pack b ((c ++ d).drop a.n)]
        rw [List.take_left' h1.length, List.drop_left' h1.length, e1, e2]
      | [], hu => exact hu.elim
      | [_], hu => exact hu.2.elim
      | _ :: _ :: _ :: _, hu => exact hu.2.2.elim
    · cases h
  · cases h
  · cases h
  · rename_i v h1 h2
    match us, hu with
    | [u], hu =>
      obtain ⟨c, h1', e1⟩ := castD_vrep h hu.1
      refine ⟨c, ?_, h1'⟩
      have hpl : a.argy = true := by cases a <;> first | rfl | exact absurd rfl h1 | exact absurd rfl (h2 _ _)
      rw [AR_plain hpl, e1]
    | [], hu => exact hu.elim
    | _ :: _ :: _, hu => exact hu.2.elim
  · cases h

section
variable {K : Ctx} {s : ASt} {a : Act} {w : World} {β : Nat → Loc} {cx : Cx} {g : List (Nat × Bool)} {o : Oper} {e : Eff} {d : Nat}
theorem did_nilCheck (h : RelB K s a w β) (hg : Hold a g) {x : Operand} (hop : o.op = .nilCheck x) (hd : o.dst = some d) (he : eff cx s g o = some e) (hob : ∀ r, e.obl = some r → r) : Did K s a w o e := by
  have hx := ev_rep (cx := cx) h hg 0 x
  simp only [eff, hop, hd] at he
  unfold nilEff at he
  split at he
  · rename_i nm m y h1
    rw [h1] at hx
    obtain ⟨u, ex, cs, hcs, hu⟩ := hx
    split at he
    · rename_i g₀ hg₀
      cases he
      have hone : cs = [u] := by
        cases m <;> first | cases hg₀ | skip
        obtain ⟨v, rfl, _⟩ := hcs
        rw [hu]; rfl
      rw [hone] at hcs
      obtain ⟨T, u', e1, hah⟩ := imGet_ahead hcs hg₀ (hob _ rfl)
      refine did_pure (v := .func (.method nm) #[u] #[]) h rfl ?_ ⟨u, rfl, cs, by rw [hone]; exact hcs, hu⟩
      rw [e1] at ex ⊢
      simp [execOp, hop, ex, hah]
    · cases he
  · rename_i ob p h1
    rw [h1] at hx
    split at he
    · rename_i obj hobj
      cases he
      have hx' := hx
      simp only [AVRep, SVRep, hobj] at hx'
      obtain ⟨_, b, off, _, _, ex⟩ := hx'
      exact did_pure (v := .pointer (some ⟨b, off, none⟩)) h rfl (by simp [execOp, hop, ex]) (by rw [← ex]; exact hx)
    · cases he
  · rename_i t y h1
    rw [h1] at hx
    have he := ok_some he; subst he
    obtain ⟨b, off, vs, ex, _⟩ := ref_val hx
    exact did_pure (v := .pointer (some ⟨b, off, none⟩)) h rfl (by simp [execOp, hop, ex]) (by rw [← ex]; exact hx)
  · cases he
theorem did_makeMeth (h : RelB K s a w β) (hg : Hold a g) {nm : String} {x y : Array Operand} (hop : o.op = .makeFunc (.method nm) x y) (hd : o.dst = some d) (he : eff cx s g o = some e) : Did K s a w o e := by
  simp only [eff, hop, hd] at he
  split at he
  · rename_i z hx hy
    have hz := ev_rep (cx := cx) h hg 0 z
    split at he
    · rename_i m q h1
      rw [h1] at hz
      have he := ok_some he; subst he
      refine did_pure (v := .func (.method nm) #[a.eval z] #[]) h rfl ?_ ⟨_, rfl, hz⟩
      have e1 : x = #[z] := by rw [← Array.toList_inj]; exact hx
      have e2 : y = #[] := by rw [← Array.toList_inj]; exact hy
      subst e1; subst e2
      simp [execOp, hop, Instr.makeFunc]
    · cases he
  · cases he
theorem did_iface (hcx : CxOk K.P cx) (h : RelB K s a w β) (hg : Hold a g) {T : TypeId} {x : Operand} (hop : o.op = .makeInterface T x) (he : ifaceEff cx s T o.type (ev cx s g T x) = some e) : Did K s a w o e := by
  have hx := ev_rep (cx := cx) h hg T x
  unfold ifaceEff at he
  split at he
  · rename_i v ids fz m hs hm
    split at he
    · rename_i d' hd'
      split at he
      · rename_i y hy
        obtain ⟨hc, he⟩ := cond_some he
        subst he
        obtain ⟨h1, h2, h3, h4⟩ := solid_rep hcx h hs (us := [a.eval x]) ⟨hx, trivial⟩
        obtain ⟨hr, nm, f, hf⟩ := imMk_rep hcx h4.1 hd' hc
        have hmk := (hcx.mth T nm f hf).made (a.eval x) w
        refine ⟨.iface T (a.eval x), w, β, ?_, h1, ⟨_, castD_rep hy hr, ?_⟩⟩
        · simp [execOp, hop, hmk]
        · cases m <;> first | rfl | cases hc
      · cases he
    · cases he
  · cases he
end
end Go.Sx
