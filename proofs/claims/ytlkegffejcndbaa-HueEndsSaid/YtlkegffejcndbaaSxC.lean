/-
  The symbolic layer, twelfth part: addresses and reads.
-/
import Derived.Test.YtlkegffejcndbaaSxB
set_option linter.all false
namespace Go.Sx

theorem cond_some {c : Bool} {x e : Eff} (h : cond c (some x) none = some e) : c = true ∧ e = x := by cases c <;> simp_all
theorem nlt0 {α : Type} {n : Int} {l : List α} (h0 : 0 ≤ n) (h1 : n < (l.length : Int)) (h : l = []) : False := by subst h; simp at h1; omega
theorem nlt {n : Int} {k : Nat} (h0 : 0 ≤ n) (h1 : n < (k : Int)) : n.toNat < k := by omega
theorem obOff_append {ob : Ob} {p q : List Stp} {o₁ o₂ : Nat} {t t' : Ty} (h : obOff ob p = some (o₁, t)) (hq : offP t q = some (o₂, t')) (hi : inOb ob p) (hj : inP t q) :
    obPos ob p = some o₁ ∧ obPos ob (p ++ q) = some (o₁ + o₂) ∧ inOb ob (p ++ q) := by
  cases ob with
  | bx f t₀ x =>
    have h : offP t₀ p = some (o₁, t) := h
    refine ⟨by simp [obPos, h], ?_, inP_append h hi hj⟩
    simp [obPos, offP_append h, hq]
  | row f e t₀ l =>
    cases p with
    | nil => cases h
    | cons s p =>
      cases s with
      | x i =>
        simp only [obOff, Option.map_eq_some_iff] at h
        obtain ⟨⟨o₀, t₁⟩, h, e⟩ := h
        cases e
        refine ⟨by simp [obPos, h], ?_, hi.1, inP_append h hi.2 hj⟩
        simp [obPos, offP_append h, hq, Nat.add_assoc]
      | l => cases h
      | r => cases h
      | o => cases h
  | bv v => cases h
  | mm _ _ _ => cases h
  | gh _ _ => cases h

theorem Cells.sub {w : World} {b off o n : Nat} {vs : List Value} (h : Cells w b off vs) (hle : o + n ≤ vs.length) : Cells w b (off + o) (Sx.sub vs o n) := by
  obtain ⟨c, e, z, h1, h2⟩ := h
  refine ⟨c, e, z, h1, fun j v hj => ?_⟩
  have hjn : j < n := by
    have := (List.getElem?_eq_some_iff.1 hj).1
    rw [sub_length hle] at this; exact this
  rw [sub_getElem? hjn] at hj
  rw [Nat.add_assoc]
  exact h2 _ _ hj

section
variable {K : Ctx} {s : ASt} {a : Act} {w : World} {β : Nat → Loc} {cx : Cx} {g : List (Nat × Bool)} {o : Oper} {e : Eff} {d : Nat}

theorem ref_val {P : Program} {t : Ty} {w : World} {M : Nat → Prop} {u : Value} {x : t.D} (h : VRep P (.ref t) w M u x) : ∃ b off vs, u = .pointer (some ⟨b, off, none⟩) ∧ St w M b ∧ Rep P t w M vs x ∧ Cells w b off vs := by
  obtain ⟨cs, ⟨b, off, vs, rfl, h1, h2, h3⟩, rfl⟩ := h
  exact ⟨b, off, vs, rfl, h1, h2, h3⟩
theorem ref_mk {P : Program} {t : Ty} {w : World} {M : Nat → Prop} {b off : Nat} {vs : List Value} {x : t.D} (h1 : St w M b) (h2 : Rep P t w M vs x) (h3 : Cells w b off vs) : VRep P (.ref t) w M (.pointer (some ⟨b, off, none⟩)) x :=
  ⟨_, ⟨b, off, vs, rfl, h1, h2, h3⟩, rfl⟩

theorem run_fieldAt {P : Program} {T k : Nat} {fs : Array Field} {f : Field} {b off : Nat} {n : Nat} (hu : P.underlying T = some (.struct fs)) (hf : fs[k]? = some f) (hs : ∀ w, (sizeOf f.type).run P w = .ok n w) (hn : n ≠ 0) (w : World) :
    (Instr.fieldAt T (.pointer (some ⟨b, off, none⟩)) k).run P w = .ok (.pointer (some ⟨b, off + f.offset, none⟩)) w := by
  simp [Instr.fieldAt, run_underlying hu, hf, Instr.sureAddr, fieldPlace, hs, hn, Addr.add_lit]

theorem did_fieldAddr (hcx : CxOk K.P cx) (h : RelB K s a w β) (hg : Hold a g) {T : TypeId} {x : Operand} {k : Nat} (hop : o.op = .fieldAddr T x k) (hd : o.dst = some d) (he : eff cx s g o = some e) : Did K s a w o e := by
  have hx := ev_rep (cx := cx) h hg 0 x
  simp only [eff, hop, hd] at he
  unfold addrField at he
  split at he
  · rename_i t₀ hT
    split at he
    · rename_i q hq
      obtain ⟨fs, f, tf, hu, hf, ho, hft, hn, hip⟩ := field_facts (hcx.ty T t₀ hT) hq
      have hsz := (hcx.ty _ _ hft).size
      split at he
      · rename_i t y h1
        rw [h1] at hx
        obtain ⟨b, off, vs, ex, hst, hr, hc⟩ := ref_val hx
        split at he
        · rename_i y' hy
          split at he
          · rename_i v hv
            have he := ok_some he; subst he
            obtain ⟨off', ho', hle, hr'⟩ := getP_rep (castD_rep hy hr) hv hip
            rw [ho] at ho'
            simp only [Option.some.injEq, Prod.mk.injEq] at ho'
            obtain ⟨e1, rfl⟩ := ho'
            subst e1
            refine did_pure (v := .pointer (some ⟨b, off + f.offset, none⟩)) h rfl ?_ (ref_mk hst hr' (hc.sub hle))
            simp [execOp, hop, ex, run_fieldAt hu hf hsz hn]
          · cases he
        · cases he
      · rename_i ob p h1
        rw [h1] at hx
        simp only [AVRep, SVRep] at hx
        split at he
        · rename_i obj hobj
          rw [hobj] at hx
          obtain ⟨hin, b, off, hb, hp, ex⟩ := hx
          split at he
          · rename_i o₁ t hot
            obtain ⟨hc, he'⟩ := cond_some he
            subst he'
            have ht := Ty.beq_eq hc
            subst ht
            obtain ⟨a1, a2, a3⟩ := obOff_append hot ho hin hip
            rw [hp] at a1
            have a1 := Option.some.inj a1
            subst a1
            refine did_pure (v := .pointer (some ⟨b, off + f.offset, none⟩)) h rfl ?_ ?_
            · simp [execOp, hop, ex, run_fieldAt hu hf hsz hn]
            · simp only [AVRep, SVRep, hobj]
              exact ⟨a3, b, _, hb, a2, rfl⟩
          · cases he
        · cases he
      · cases he
    · cases he
  · cases he

theorem did_field (hcx : CxOk K.P cx) (h : RelB K s a w β) (hg : Hold a g) {T : TypeId} {x : Operand} {k : Nat} (hop : o.op = .field T x k) (hd : o.dst = some d) (he : eff cx s g o = some e) : Did K s a w o e := by
  have hx := ev_rep (cx := cx) h hg 0 x
  simp only [eff, hop, hd] at he
  split at he
  · rename_i t y t' h1 hT
    rw [h1] at hx
    split at he
    · rename_i y' q hy hq
      obtain ⟨fs, f, tf, hu, hf, ho, hft, hn, hip⟩ := field_facts (hcx.ty T t' hT) hq
      obtain ⟨cs, hcs, ex⟩ : VRep K.P t' w _ (a.eval x) y' := castD_vrep hy hx
      simp only [Option.bind_eq_some_iff] at he
      obtain ⟨v, hv, he⟩ := he
      have he := ok_some he; subst he
      obtain ⟨off', ho', hle, hr'⟩ := getP_rep hcs hv hip
      rw [ho] at ho'
      simp only [Option.some.injEq, Prod.mk.injEq] at ho'
      obtain ⟨e1, rfl⟩ := ho'
      subst e1
      have hp := (hcx.ty _ _ hft).part hle hr' w
      have hag : t'.agg = true := by cases t' <;> simp [fieldPath] at hq <;> rfl
      have ex' : a.eval x = .agg cs.toArray := by rw [ex]; simp [pack, hag]
      refine did_pure (v := pack v.t (sub cs f.offset v.t.n)) h rfl ?_ ⟨_, hr', rfl⟩
      simp [execOp, hop, ex', Instr.field, run_underlying hu, hf, asAgg, hp]
    · cases he
  · cases he

theorem arr_facts {P : Program} {ty : Nat → Option Ty} {el : Nat → Nat} {T n : Nat} {t : Ty} (h : TyF P ty el T (.arr n t)) : ∃ E, P.underlying T = some (.array n E) ∧ ty E = some t ∧ t.n ≠ 0 := by
  obtain ⟨i, dd, _, hu, _, _, _, _, h3, _⟩ := h.info
  obtain ⟨m, E, rfl⟩ : ∃ m E, dd = .array m E := by cases dd <;> simp [descIs] at h3 <;> exact ⟨_, _, rfl⟩
  simp only [descIs, Bool.and_eq_true, Bool.not_eq_true'] at h3
  obtain ⟨h1, h2, h3⟩ := h3
  have := Nat.eq_of_beq_eq_true h1
  subst this
  exact ⟨E, hu, tyIs_eq h2, fun h0 => by rw [h0] at h3; cases h3⟩
theorem sl_facts {P : Program} {ty : Nat → Option Ty} {el : Nat → Nat} {T : Nat} {t : Ty} (h : TyF P ty el T (.sl t)) : P.underlying T = some (.slice (el T)) ∧ ty (el T) = some t ∧ t.n ≠ 0 := by
  obtain ⟨i, dd, _, hu, _, _, _, _, h3, _⟩ := h.info
  obtain ⟨E, rfl⟩ : ∃ E, dd = .slice E := by cases dd <;> simp [descIs] at h3 <;> exact ⟨_, rfl⟩
  simp only [descIs, Bool.and_eq_true, Bool.not_eq_true'] at h3
  obtain ⟨h1, h2, h3⟩ := h3
  have := Nat.eq_of_beq_eq_true h2
  subst this
  exact ⟨hu, tyIs_eq h1, fun h0 => by rw [h0] at h3; cases h3⟩

theorem sl_val {P : Program} {t : Ty} {w : World} {M : Nat → Prop} {u : Value} {x : List t.D} (h : VRep P (.sl t) w M u x) : ∃ a cap, u = .slice a x.length cap ∧ x.length ≤ min cap 140737488355328 ∧
    (x = [] ∨ ∃ b off vss, a = some ⟨b, off, none⟩ ∧ St w M b ∧ All2 (Rep P t w M) vss x ∧ Cells w b off vss.flatten) := by
  obtain ⟨cs, ⟨a, cap, rfl, h1, h2⟩, rfl⟩ := h
  exact ⟨a, cap, rfl, h1, h2⟩

theorem did_indexAddr (hcx : CxOk K.P cx) (h : RelB K s a w β) (hg : Hold a g) {T : TypeId} {x i : Operand} (hop : o.op = .indexAddr T x i) (hd : o.dst = some d) (he : eff cx s g o = some e) (hob : ∀ r, e.obl = some r → r) : Did K s a w o e := by
  have hx := ev_rep (cx := cx) h hg T x
  have hi := ev_rep (cx := cx) h hg 0 i
  simp only [eff, hop, hd] at he
  split at he
  · rename_i n hn
    rw [hn] at hi
    obtain ⟨ei, _, _⟩ := int_val hi
    unfold addrIndex at he
    split at he
    · rename_i t hT
      obtain ⟨hu, hE, _⟩ := sl_facts (hcx.ty T _ hT)
      have hsz := (hcx.ty _ _ hE).size
      split at he
      · rename_i ob h1
        rw [h1] at hx
        simp only [AVRep, SVRep] at hx
        split at he
        · rename_i f e₁ t₁ l hobj
          rw [hobj] at hx
          obtain ⟨hc, he'⟩ := cond_some he
          subst he'
          have := Ty.beq_eq hc
          subst this
          obtain ⟨hi0, hi1⟩ := hob _ rfl
          have hi1 : n < (l.length : Int) := hi1
          obtain ⟨_, ex⟩ := hx
          obtain ⟨_, hblk, vss, hvs, hown⟩ := h.ob _ _ hobj
          rcases hown.2 with ⟨e1, e2⟩ | ⟨gg, cap, cur, e1, _⟩
          · exact (nlt0 hi0 hi1 (List.eq_nil_of_length_eq_zero e2)).elim
          rw [e1] at ex hblk
          refine did_pure (v := .pointer (some ⟨gg, n.toNat * t₁.n, none⟩)) h rfl ?_ ?_
          · simp [execOp, hop, ex, ei, Instr.indexAt, asIntOf, run_underlying hu, hi0, hi1, hsz, Addr.add_lit]
          · simp only [AVRep, SVRep, hobj]
            exact ⟨⟨nlt hi0 hi1, by cases t₁ <;> trivial⟩, gg, _, hblk, by simp [obPos, show offP t₁ [] = some (0, t₁) from by cases t₁ <;> rfl], rfl⟩
        · cases he
      · rename_i t' l' h1
        rw [h1] at hx
        split at he
        · rename_i l hl
          have he := okO_some he; subst he
          obtain ⟨hi0, hi1⟩ := hob _ rfl
          have hi0 : (0 : Int) ≤ n := hi0
          have hi1 : n < ((l : List t.D).length : Int) := hi1
          obtain ⟨ad, cap, ex, _, hm⟩ := sl_val (castD_vrep hl hx)
          rcases hm with hm | ⟨b, off, vss, rfl, hst, hvs, hc⟩
          · exact (nlt0 hi0 hi1 hm).elim
          obtain ⟨c, hcc, hrc⟩ := hvs.get (getD_some (l := (l : List t.D)) (i := n.toNat) (d := t.z) (nlt hi0 hi1))
          obtain ⟨e1, e2⟩ := flatten_sub (k := t.n) (all2u_length hvs) hcc
          refine did_pure (v := .pointer (some ⟨b, off + n.toNat * t.n, none⟩)) h rfl ?_ (ref_mk hst (by rw [← e1] at hrc; exact hrc) (hc.sub e2))
          simp [execOp, hop, ex, ei, Instr.indexAt, asIntOf, run_underlying hu, hi0, hi1, hsz, Addr.add_lit]
        · cases he
      · cases he
    · rename_i m t hT
      obtain ⟨E, hu, hE, hn0⟩ := arr_facts (hcx.ty T _ hT)
      have hsz := (hcx.ty _ _ hE).size
      split at he
      · rename_i ob q h1
        rw [h1] at hx
        simp only [AVRep, SVRep] at hx
        split at he
        · rename_i obj hobj
          rw [hobj] at hx
          obtain ⟨hin, b, off, hb, hp, ex⟩ := hx
          split at he
          · rename_i o₁ t₁ hot
            obtain ⟨hc, he'⟩ := cond_some he
            subst he'
            have := Ty.beq_eq hc
            subst this
            obtain ⟨hi0, hi1⟩ := hob _ rfl
            have hi0 : (0 : Int) ≤ n := hi0
            have hi1 : n < (m : Int) := hi1
            have hoff : offP (.arr m t) [.x (Z.nat n)] = some (Z.nat n * t.n, t) := by
              simp [offP, show offP t [] = some (0, t) from by cases t <;> rfl]
            obtain ⟨a1, a2, a3⟩ := obOff_append hot hoff hin ⟨nlt hi0 hi1, by cases t <;> trivial⟩
            rw [hp] at a1
            have a1 := Option.some.inj a1
            subst a1
            refine did_pure (v := .pointer (some ⟨b, off + n.toNat * t.n, none⟩)) h rfl ?_ ?_
            · simp [execOp, hop, ex, ei, Instr.indexAt, asIntOf, run_underlying hu, Instr.sureAddr, hi0, hi1, hsz, Addr.add_lit]
            · simp only [AVRep, SVRep, hobj]
              exact ⟨a3, b, _, hb, a2, rfl⟩
          · cases he
        · cases he
      · rename_i t' l' h1
        rw [h1] at hx
        split at he
        · rename_i l hl
          have he := okO_some he; subst he
          obtain ⟨hi0, hi1⟩ := hob _ rfl
          have hi0 : (0 : Int) ≤ n := hi0
          have hi1 : n < (m : Int) := hi1
          obtain ⟨b, off, vs, ex, hst, hr, hc⟩ := ref_val hx
          obtain ⟨vss, rfl, hvs, hlen⟩ := castD_rep hl hr
          obtain ⟨c, hcc, hrc⟩ := hvs.get (getD_some (l := (l : List t.D)) (i := n.toNat) (d := t.z) (nlt hi0 (by rw [hlen]; exact hi1)))
          obtain ⟨e1, e2⟩ := flatten_sub (k := t.n) (all2u_length hvs) hcc
          refine did_pure (v := .pointer (some ⟨b, off + n.toNat * t.n, none⟩)) h rfl ?_ (ref_mk hst (by rw [← e1] at hrc; exact hrc) (hc.sub e2))
          simp [execOp, hop, ex, ei, Instr.indexAt, asIntOf, run_underlying hu, Instr.sureAddr, hi0, hi1, hsz, Addr.add_lit]
        · cases he
      · cases he
    · cases he
  · cases he

theorem did_index (hcx : CxOk K.P cx) (h : RelB K s a w β) (hg : Hold a g) {T : TypeId} {x i : Operand} (hop : o.op = .index T x i) (hd : o.dst = some d) (he : eff cx s g o = some e) (hob : ∀ r, e.obl = some r → r) : Did K s a w o e := by
  have hx := ev_rep (cx := cx) h hg 0 x
  have hi := ev_rep (cx := cx) h hg 0 i
  simp only [eff, hop, hd] at he
  split at he
  · rename_i t y n m t' h1 hn hT
    rw [h1] at hx; rw [hn] at hi
    obtain ⟨ei, _, _⟩ := int_val hi
    split at he
    · rename_i l hl
      have he := okO_some he; subst he
      obtain ⟨hi0, hi1⟩ := hob _ rfl
      have hi0 : (0 : Int) ≤ n := hi0
      have hi1 : n < (m : Int) := hi1
      obtain ⟨E, hu, hE, hn0⟩ := arr_facts (hcx.ty T _ hT)
      have hsz := (hcx.ty _ _ hE).size
      obtain ⟨cs, ⟨vss, rfl, hvs, hlen⟩, ex⟩ := castD_vrep hl hx
      obtain ⟨c, hcc, hrc⟩ := hvs.get (getD_some (l := (l : List t'.D)) (i := n.toNat) (d := t'.z) (nlt hi0 (by rw [hlen]; exact hi1)))
      obtain ⟨e1, e2⟩ := flatten_sub (k := t'.n) (all2u_length hvs) hcc
      rw [← e1] at hrc
      have hp := (hcx.ty _ _ hE).part e2 hrc w
      have ex' : a.eval x = .agg vss.flatten.toArray := ex
      refine did_pure (v := pack t' (sub vss.flatten (n.toNat * t'.n) t'.n)) h rfl ?_ ⟨_, hrc, rfl⟩
      simp [execOp, hop, ex', ei, Instr.index, asIntOf, run_underlying hu, hi0, hi1, hsz]
      rw [hp]; rfl
    · cases he
  · cases he

theorem did_load (hcx : CxOk K.P cx) (h : RelB K s a w β) (hg : Hold a g) {T : TypeId} {x : Operand} (hop : o.op = .load T x) (hd : o.dst = some d) (he : eff cx s g o = some e) : Did K s a w o e := by
  have hx := ev_rep (cx := cx) h hg 0 x
  simp only [eff, hop, hd] at he
  unfold loadEff at he
  have plain : ∀ {t' : Ty} {M : Nat → Prop} {z : t'.D} {b off : Nat} {vs : List Value} {rd : List Nat}, cx.ty T = some t' → a.eval x = .pointer (some ⟨b, off, none⟩) → Rep K.P t' w (Mset K.Mg s β) vs z → Cells w b off vs → e = ⟨none, .s (.d t' z), rd, []⟩ → Did K s a w o e := by
    rintro t' M z b off vs rd hT ex hr hc rfl
    refine did_pure (v := pack t' vs) h rfl ?_ ⟨_, hr, rfl⟩
    have := (hcx.ty T t' hT).load hr hc
    simp [execOp, hop, ex, this]
  split at he
  · rename_i t y h1
    rw [h1] at hx
    obtain ⟨b, off, vs, ex, hst, hr, hc⟩ := ref_val hx
    split at he
    · rename_i t' hT
      simp only [Option.bind_eq_some_iff] at he
      obtain ⟨z, hz, he⟩ := he
      exact plain (M := noM) hT ex (castD_rep hz hr) hc (ok_some he)
    · cases he
  · rename_i ob q h1
    rw [h1] at hx
    simp only [AVRep, SVRep] at hx
    split at he
    · rename_i f t y hobj
      rw [hobj] at hx
      obtain ⟨hin, b, off, hb, hp, ex⟩ := hx
      obtain ⟨b', vs, e', hb', hh, hr⟩ := h.ob _ _ hobj
      rw [hb] at hb'; cases hb'
      split at he
      · rename_i v t' hv hT
        simp only [Option.bind_eq_some_iff] at he
        obtain ⟨z, hz, he⟩ := he
        obtain ⟨off', ho', hle, hr'⟩ := getP_rep hr hv hin
        simp only [obPos, ho', Option.map_some, Option.some.injEq] at hp
        subst hp
        have hc : Cells w b 0 vs := ⟨_, _, _, hh, fun j v hj => by simpa using hj⟩
        have := hc.sub hle
        rw [Nat.zero_add] at this
        exact plain (M := noM) hT ex (castD_rep hz hr') this (Option.some.inj he).symm
      · cases he
    · rename_i f e₁ t l hobj
      rw [hobj] at hx
      split at he
      · rename_i i q
        obtain ⟨⟨hi, hq⟩, b, off, hb, hp, ex⟩ := hx
        obtain ⟨_, hblk, vss, hvs, hown⟩ := h.ob _ _ hobj
        split at he
        · rename_i v t' hv hT
          simp only [Option.bind_eq_some_iff] at he
          obtain ⟨z, hz, he⟩ := he
          obtain ⟨c, hcc, hrc⟩ := hvs.get (getD_some (l := (l : List t.D)) (i := i) (d := t.z) hi)
          obtain ⟨e1, e2⟩ := flatten_sub (k := t.n) (all2u_length hvs) hcc
          obtain ⟨off', ho', hle, hr'⟩ := getP_rep hrc hv hq
          simp only [obPos, ho', Option.map_some, Option.some.injEq] at hp
          subst hp
          rcases hown.2 with ⟨g1, g2⟩ | ⟨gg, cap, cur, g1, _, g3, g4, _, g5, g6⟩
          · omega
          rw [g1] at hblk
          have : gg = b := by rw [hb] at hblk; simpa [Value.ownBlock] using hblk.symm
          subst this
          have hc : Cells w gg 0 vss.flatten := ⟨_, _, _, g3, fun j v hj => by
            rw [← g6] at hj
            have := (List.getElem?_eq_some_iff.1 hj).1
            rw [List.getElem?_take_of_lt (by simp at this; omega)] at hj
            simpa using hj⟩
          have hc1 := hc.sub e2
          rw [e1, Nat.zero_add] at hc1
          exact plain (M := noM) hT ex (castD_rep hz hr') (hc1.sub hle) (Option.some.inj he).symm
        · cases he
      · cases he
    · rename_i v hobj
      rw [hobj] at hx
      split at he
      · obtain ⟨_, b, off, hb, hp, ex⟩ := hx
        obtain ⟨hone, he⟩ := cond_none he
        cases he
        obtain ⟨b', u, e', hb', hh, hu⟩ := h.ob _ _ hobj
        rw [hb] at hb'; cases hb'
        cases hp
        refine did_pure (v := u) h rfl ?_ hu
        have hcell : w.cell? ⟨b, 0, none⟩ = some u := by simp [World.cell?, hh]
        simp [execOp, hop, ex, Instr.loadAt, Instr.sureAddr, loadVar, (hcx.one T hone).agg, hcell]
      · cases he
    · cases he
  · cases he

theorem did_extract (h : RelB K s a w β) (hg : Hold a g) {x : Operand} {k : Nat} (hop : o.op = .extract x k) (hd : o.dst = some d) (he : eff cx s g o = some e) : Did K s a w o e := by
  have hx := ev_rep (cx := cx) h hg 0 x
  simp only [eff, hop, hd] at he
  split at he
  · rename_i l h1
    rw [h1] at hx
    obtain ⟨vs, ex, hvs⟩ := hx
    simp only [Option.bind_eq_some_iff] at he
    obtain ⟨v, hv, he⟩ := he
    have he := ok_some he; subst he
    have hn : ∀ {l : List SV} {k : Nat}, nth l k = l[k]? := by
      intro l
      induction l with
      | nil => intro k; cases k <;> rfl
      | cons a l ih => intro k; cases k with
        | zero => rfl
        | succ k => simp [nth, ih]
    rw [hn] at hv
    obtain ⟨u, hu, hr⟩ := (All2.flip hvs).get hv
    refine did_pure (v := u) h rfl ?_ hr
    simp [execOp, hop, ex, Instr.extract, hu]
  · cases he

theorem caps_rep (h : RelB K s a w β) (hg : Hold a g) : {l : List Operand} → {c : List SV} → All2 (fun x y => (match ev cx s g 0 x with | .s v => some v | _ => none) = some y) l c → All2 (SVRep K.P s β w (Mset K.Mg s β)) c (l.map a.eval)
  | [], [], _ => trivial
  | [], _ :: _, hall => hall.elim
  | _ :: _, [], hall => hall.elim
  | z :: l, v :: c, hall => by
    obtain ⟨h1, h2⟩ := hall
    refine ⟨?_, caps_rep h hg h2⟩
    have hz := ev_rep (cx := cx) h hg 0 z
    generalize ev cx s g 0 z = q at h1 hz
    cases q with
    | s v' => cases h1; exact hz
    | _ => cases h1

theorem did_makeFunc (h : RelB K s a w β) (hg : Hold a g) {f : Nat} {x y : Array Operand} (hop : o.op = .makeFunc (.func f) x y) (hd : o.dst = some d) (he : eff cx s g o = some e) : Did K s a w o e := by
  simp only [eff, hop, hd] at he
  split at he
  · rename_i hx0
    split at he
    · rename_i c hc
      have he := ok_some he; subst he
      have hvs := caps_rep h hg (optAll_all2 hc)
      refine did_pure (v := .func (.func f) #[] (y.toList.map a.eval).toArray) h rfl ?_ ⟨_, rfl, hvs⟩
      have e1 : x = #[] := by
        apply Array.ext'
        exact hx0
      have e2 : y.map a.eval = (y.toList.map a.eval).toArray := by apply Array.ext'; simp
      rw [e2.symm]; simp [execOp, hop, e1, Instr.makeFunc]
    · cases he
  · cases he
end
end Go.Sx
