/-
  The symbolic layer, part 17b: maps of what is known.
-/
import Derived.Test.YtlkegffejcndbaaSxH
set_option linter.all false
namespace Go.Sx
section
variable {P : Program} {ty : Nat → Option Ty} {el : Nat → Nat}

/-- A key's cells read as letters. -/
theorem keyLits_rep (hty : ∀ T t, ty T = some t → TyF P ty el T t) : ∀ (d : Nat) {T : Nat} {t : Ty} {w : World} {M : Nat → Prop} {cs : List Value} {x : t.D}, ty T = some t → P.keyTypeAt d T = true → Rep P t w M cs x → ∃ L, P.keyLits d T cs = some L
  | 0, _, _, _, _, _, _, _, hk, _ => by cases hk
  | d + 1, T, t, w, M, cs, x, hT, hk, hr => by
    have hF := hty T t hT
    obtain ⟨i, dd, h1, h2, hsz, _, _, _, h3, _⟩ := hF.info
    have hcells : P.cellsOf T = t.n := by simp [Program.cellsOf, h1, hsz]
    have hcl := hr.length
    have sizes : ∀ T' t', ty T' = some t' → P.cellsOf T' = t'.n := fun T' t' hT' => by
      obtain ⟨i', dd', g1, _, gsz, _⟩ := (hty T' t' hT').info
      simp [Program.cellsOf, g1, gsz]
    simp only [Program.keyTypeAt, h2] at hk
    cases t with
    | i k =>
      obtain ⟨rfl, a1, a2⟩ := hr
      have hu : dd = .int k := by
        cases dd <;> simp only [descIs, Bool.false_eq_true] at h3
        rw [ikBeq_eq h3]
      subst hu
      refine ⟨[.int k x], ?_⟩
      simp only [Program.keyLits, h2]
      rw [if_pos ⟨trivial, by simp [Lit.wf, a1, a2]⟩]
    | bo =>
      have hr : cs = _ := hr
      subst hr
      have hu : dd = .bool := by cases dd <;> simp only [descIs, Bool.false_eq_true] at h3; rfl
      subst hu
      exact ⟨[.bool x], by simp only [Program.keyLits, h2]⟩
    | u => cases dd <;> simp [descIs] at h3
    | p a b => cases dd <;> simp [descIs] at h3
    | sl a => cases dd <;> simp [descIs] at h3; simp at hk
    | ref a => cases dd <;> simp [descIs] at h3; simp at hk
    | f1 a b => cases dd <;> simp [descIs] at h3; simp at hk
    | f2 a b c => cases dd <;> simp [descIs] at h3; simp at hk
    | sq n a => cases dd <;> simp [descIs] at h3; simp at hk
    | arr n t' =>
      obtain ⟨E, rfl⟩ : ∃ E, dd = .array n E := by
        cases dd <;> simp only [descIs, Bool.false_eq_true, Bool.and_eq_true] at h3
        exact ⟨_, by rw [Nat.eq_of_beq_eq_true h3.1]⟩
      simp only [descIs, Bool.and_eq_true] at h3
      have hE := tyIs_eq h3.2.1
      simp only at hk
      obtain ⟨vss, rfl, hv1, hv2⟩ := hr
      have he := sizes E t' hE
      have hall : ∀ l : List Nat, (∀ i ∈ l, i < n) → ∃ Ls, (l.mapM fun i => P.keyLits d E ((vss.flatten.drop (i * P.cellsOf E)).take (P.cellsOf E))) = some Ls := by
        intro l
        induction l with
        | nil => intro _; exact ⟨[], rfl⟩
        | cons i l ih =>
          intro hl
          obtain ⟨Ls, hLs⟩ := ih fun j hj => hl j (List.mem_cons_of_mem _ hj)
          obtain ⟨c, hc, hrc⟩ := hv1.get (getD_some (l := (x : List t'.D)) (i := i) (d := t'.z) (by rw [hv2]; exact hl i List.mem_cons_self))
          obtain ⟨e1, _⟩ := flatten_sub (k := t'.n) (all2u_length hv1) hc
          obtain ⟨L, hL⟩ := keyLits_rep hty d (w := w) (M := M) hE hk hrc
          refine ⟨L :: Ls, ?_⟩
          have e2 : (vss.flatten.drop (i * P.cellsOf E)).take (P.cellsOf E) = c := by rw [he]; exact e1
          rw [List.mapM_cons, e2, hL, hLs]; rfl
      obtain ⟨Ls, hLs⟩ := hall (List.range n) fun i hi => List.mem_range.1 hi
      refine ⟨Ls.flatten, ?_⟩
      simp only [Program.keyLits, h2]
      rw [if_pos (by rw [hcells]; exact hcl), hLs]; rfl
    | st sp =>
      obtain ⟨fs, rfl⟩ : ∃ fs, dd = .struct fs := by cases dd <;> simp [descIs] at h3 <;> exact ⟨_, rfl⟩
      simp only [descIs] at h3
      simp only [Bool.and_eq_true, Array.all_eq_true', bne_iff_ne, ne_eq] at hk
      have hnames : ∀ f ∈ fs, f.name ≠ "_" ∧ P.keyTypeAt d f.type = true := hk.1.1
      have hr : Rep P sp w M cs x := hr
      have hone : ∀ (t' : Ty) (off : Nat) (y : t'.D) (T' : Nat), ty T' = some t' → P.keyTypeAt d T' = true → Rep P t' w M (Sx.sub cs off t'.n) y → ∃ L, P.keyLits d T' ((cs.drop off).take (P.cellsOf T')) = some L := by
        intro t' off y T' hT' hk' hr'
        rw [sizes T' t' hT']
        exact keyLits_rep hty d hT' hk' hr'
      have key : ∀ (sp' : Ty) (l : List Field) (off : Nat) (y : sp'.D), fieldsAre ty l (comps sp') off = true → (∀ f ∈ l, P.keyTypeAt d f.type = true) → off + sp'.n ≤ cs.length → Rep P sp' w M (Sx.sub cs off sp'.n) y →
          ∃ Ls, (l.mapM fun f => P.keyLits d f.type ((cs.drop f.offset).take (P.cellsOf f.type))) = some Ls := by
        intro sp'
        have last : ∀ sp' : Ty, comps sp' = [sp'] → ∀ (l : List Field) (off : Nat) (y : sp'.D), fieldsAre ty l (comps sp') off = true → (∀ f ∈ l, P.keyTypeAt d f.type = true) → off + sp'.n ≤ cs.length → Rep P sp' w M (Sx.sub cs off sp'.n) y →
          ∃ Ls, (l.mapM fun f => P.keyLits d f.type ((cs.drop f.offset).take (P.cellsOf f.type))) = some Ls := by
          intro sp' hsp l off y hf hl hle hr'
          rw [hsp] at hf
          cases l with
          | nil => exact ⟨[], rfl⟩
          | cons f l =>
            simp only [fieldsAre, Bool.and_eq_true] at hf
            obtain ⟨g1, g2, _, _, g5⟩ := hf
            cases l with
            | cons _ _ => simp [fieldsAre] at g5
            | nil =>
              obtain ⟨L, hL⟩ := hone sp' off y f.type (tyIs_eq g1) (hl f List.mem_cons_self) hr'
              refine ⟨[L], ?_⟩
              rw [List.mapM_cons, Nat.eq_of_beq_eq_true g2, hL]; rfl
        induction sp' with
        | p a b _ ihb =>
          intro l off y hf hl hle hr'
          cases l with
          | nil => exact ⟨[], rfl⟩
          | cons f l =>
            simp only [comps, fieldsAre, Bool.and_eq_true] at hf
            obtain ⟨g1, g2, _, _, g5⟩ := hf
            obtain ⟨c1, c2, e1, hx1, hx2⟩ := hr'
            simp only [Ty.n] at hle e1
            have la := hx1.length; have lb := hx2.length
            have s1 : Sx.sub cs off a.n = c1 := by
              have := sub_sub (cs := cs) (off := off) (n := a.n + b.n) (o := 0) (m := a.n) (by omega)
              rw [e1, ← la, sub_left] at this; rw [← la]; simpa using this.symm
            have s2 : Sx.sub cs (off + a.n) b.n = c2 := by
              have := sub_sub (cs := cs) (off := off) (n := a.n + b.n) (o := a.n) (m := b.n) (by omega)
              rw [e1] at this; rw [← this, ← la, ← lb, sub_right]
            obtain ⟨L, hL⟩ := hone a off y.1 f.type (tyIs_eq g1) (hl f List.mem_cons_self) (by rw [s1]; exact hx1)
            obtain ⟨Ls, hLs⟩ := ihb l (off + a.n) y.2 g5 (fun f' hf' => hl f' (List.mem_cons_of_mem _ hf')) (by omega) (by rw [s2]; exact hx2)
            refine ⟨L :: Ls, ?_⟩
            rw [List.mapM_cons, Nat.eq_of_beq_eq_true g2, hL, hLs]; rfl
        | u => intro l off y hf _ _ _; cases l with
          | nil => exact ⟨[], rfl⟩
          | cons f l => simp [comps, fieldsAre] at hf
        | i k => exact last (.i k) rfl
        | bo => exact last .bo rfl
        | st b _ => exact last (.st b) rfl
        | sl b _ => exact last (.sl b) rfl
        | arr m b _ => exact last (.arr m b) rfl
        | ref b _ => exact last (.ref b) rfl
        | f1 b c _ _ => exact last (.f1 b c) rfl
        | f2 b c e _ _ _ => exact last (.f2 b c e) rfl
        | sq m b _ => exact last (.sq m b) rfl
      obtain ⟨Ls, hLs⟩ := key sp fs.toList 0 x h3 (fun f hf => (hnames f (by simpa using hf)).2) (by simp only [Ty.n] at hcl; omega) (by simp only [Ty.n] at hcl; rw [← hcl, sub_all]; exact hr)
      refine ⟨Ls.flatten, ?_⟩
      simp only [Program.keyLits, h2]
      rw [if_pos ⟨by rw [hcells]; exact hcl, by rw [Array.all_eq_true']; intro f hf; simpa using (hnames f hf).1⟩, hLs]; rfl

theorem keyOf_rep (hty : ∀ T t, ty T = some t → TyF P ty el T t) {T : Nat} {t : Ty} {w : World} {M : Nat → Prop} {v : Value} {x : t.D} (hT : ty T = some t) (hk : P.keyType T = true) (hr : VRep P t w M v x) : ∃ l, keyOf P T v = some l := by
  obtain ⟨hr1, ev⟩ := hr.cells
  have hF := hty T t hT
  obtain ⟨i, dd, h1, h2, hsz, _, hag, _, h3, _⟩ := hF.info
  obtain ⟨L, hL⟩ := keyLits_rep hty _ hT hk hr1
  have hcells : P.cellsOf T = t.n := by simp [Program.cellsOf, h1, hsz]
  have hcl := hr1.length
  cases t with
  | i k =>
    obtain ⟨e1, a1, a2⟩ := hr1
    have hu : dd = .int k := by
      cases dd <;> simp only [descIs, Bool.false_eq_true] at h3
      rw [ikBeq_eq h3]
    subst hu
    rw [e1] at ev
    have ev : v = .int k x := ev
    subst ev
    exact ⟨.int k x, by simp [keyOf, mapKey, h2, Lit.wf, a1, a2]⟩
  | bo =>
    have e1 : v.cells.toList = _ := hr1
    rw [e1] at ev
    have ev : v = .bool x := ev
    subst ev
    have hu : dd = .bool := by cases dd <;> simp only [descIs, Bool.false_eq_true] at h3; rfl
    subst hu
    exact ⟨.bool x, by simp [keyOf, mapKey, h2]⟩
  | u => cases dd <;> simp [descIs] at h3
  | p a b => cases dd <;> simp [descIs] at h3
  | st sp =>
    obtain ⟨fs, rfl⟩ : ∃ fs, dd = .struct fs := by cases dd <;> simp [descIs] at h3 <;> exact ⟨_, rfl⟩
    have ev : v = .agg v.cells.toList.toArray := ev
    refine ⟨_, by
      unfold keyOf
      simp only [h2]
      rw [if_pos, hL]
      · rfl
      · rw [hk, ev]
        simp only [Value.formed, h2, Bool.true_and, beq_iff_eq, List.size_toArray]
        rw [hcells, hcl]⟩
  | arr n t' =>
    obtain ⟨m, E, rfl⟩ : ∃ m E, dd = .array m E := by cases dd <;> simp [descIs] at h3 <;> exact ⟨_, _, rfl⟩
    have ev : v = .agg v.cells.toList.toArray := ev
    refine ⟨_, by
      unfold keyOf
      simp only [h2]
      rw [if_pos, hL]
      · rfl
      · rw [hk, ev]
        simp only [Value.formed, h2, Bool.true_and, beq_iff_eq, List.size_toArray]
        rw [hcells, hcl]⟩
  | sl a => simp only [Program.keyType, Program.keyTypeAt, h2] at hk; cases dd <;> simp [descIs] at h3; simp at hk
  | ref a => simp only [Program.keyType, Program.keyTypeAt, h2] at hk; cases dd <;> simp [descIs] at h3; simp at hk
  | f1 a b => simp only [Program.keyType, Program.keyTypeAt, h2] at hk; cases dd <;> simp [descIs] at h3; simp at hk
  | f2 a b c => simp only [Program.keyType, Program.keyTypeAt, h2] at hk; cases dd <;> simp [descIs] at h3; simp at hk
  | sq n a => simp only [Program.keyType, Program.keyTypeAt, h2] at hk; cases dd <;> simp [descIs] at h3; simp at hk

/-- Of a key the cells tell the datum. -/
theorem Rep.inj : ∀ {t : Ty} {w w' : World} {M M' : Nat → Prop} {cs : List Value} {x y : t.D}, t.key = true → Rep P t w M cs x → Rep P t w' M' cs y → x = y
  | .i k, _, _, _, _, _, x, y, _, h, h' => by
    have := h.1.symm.trans h'.1
    simpa using this
  | .bo, _, _, _, _, cs, x, y, _, h, h' => by
    have h : cs = _ := h
    have h' : cs = _ := h'
    have := h.symm.trans h'
    simpa using this
  | .u, _, _, _, _, _, _, _, _, _, _ => rfl
  | .p a b, _, _, _, _, _, x, y, hk, h, h' => by
    simp only [Ty.key, Bool.and_eq_true] at hk
    obtain ⟨c, d, rfl, h1, h2⟩ := h
    obtain ⟨c', d', e, h1', h2'⟩ := h'
    have l1 := h1.length; have l2 := h1'.length
    obtain ⟨rfl, rfl⟩ := List.append_inj e (by omega)
    exact Prod.ext (Rep.inj hk.1 h1 h1') (Rep.inj hk.2 h2 h2')
  | .st a, _, _, _, _, _, x, y, hk, h, h' => Rep.inj (t := a) hk h h'
  | .arr n t, w, w', M, M', _, x, y, hk, h, h' => by
    obtain ⟨vss, rfl, h1, h2⟩ := h
    obtain ⟨vss', e, h1', h2'⟩ := h'
    have key : ∀ {vss vss' : List (List Value)} {x y : List t.D}, vss.flatten = vss'.flatten → All2 (Rep P t w M) vss x → All2 (Rep P t w' M') vss' y → x.length = y.length → x = y := by
      intro vss
      induction vss with
      | nil =>
        intro vss' x y _ hx _ hl
        cases x with
        | nil => cases y with
          | nil => rfl
          | cons _ _ => simp at hl
        | cons _ _ => exact hx.elim
      | cons c vss ih =>
        intro vss'' x y e hx hy hl
        cases x with
        | nil => exact hx.elim
        | cons a x =>
          cases y with
          | nil => simp at hl
          | cons b y =>
            cases vss'' with
            | nil => exact hy.elim
            | cons c' vss'' =>
              simp only [List.flatten_cons] at e
              have l1 := hx.1.length; have l2 := hy.1.length
              obtain ⟨e1, e2⟩ := List.append_inj e (by omega)
              subst e1
              rw [Rep.inj (t := t) hk hx.1 hy.1, ih (vss' := vss'') e2 hx.2 hy.2 (by simpa using hl)]
    exact key e h1 h1' (h2.trans h2'.symm)
  | .sl _, _, _, _, _, _, _, _, hk, _, _ => by cases hk
  | .ref _, _, _, _, _, _, _, _, hk, _, _ => by cases hk
  | .f1 _ _, _, _, _, _, _, _, _, hk, _, _ => by cases hk
  | .f2 _ _ _, _, _, _, _, _, _, _, hk, _, _ => by cases hk
  | .sq _ _, _, _, _, _, _, _, _, hk, _, _ => by cases hk
theorem key_flat : ∀ {t : Ty}, t.key = true → t.flat = true
  | .i _, _ => rfl
  | .bo, _ => rfl
  | .u, _ => rfl
  | .p a b, h => by
    simp only [Ty.key, Bool.and_eq_true] at h
    simp only [Ty.flat, Bool.and_eq_true]
    exact ⟨key_flat h.1, key_flat h.2⟩
  | .st a, h => key_flat (t := a) h
  | .arr _ t, h => key_flat (t := t) h
theorem VRep.inj {t : Ty} {w w' : World} {M M' : Nat → Prop} {v : Value} {x y : t.D} (hk : t.key = true) (h : VRep P t w M v x) (h' : VRep P t w' M' v y) : x = y :=
  Rep.inj hk h.cells.1 h'.cells.1
end

section
variable {K : Ctx} {s : ASt} {a : Act} {w w' : World} {β : Nat → Loc} {cx : Cx} {g : List (Nat × Bool)} {o : Oper} {e : Eff} {d : Nat}

theorem mapTys_eq {T : Nat} {tk tv : Ty} (h : mapTys cx T tk tv = true) : cx.mty T = some (keyTy cx T, elemTy cx T) ∧ cx.ty (keyTy cx T) = some tk ∧ cx.ty (elemTy cx T) = some tv ∧ tk.key = true ∧ tv.zOk = true := by
  unfold mapTys at h
  split at h
  · rename_i k e hT
    have e1 : keyTy cx T = k := by unfold keyTy; rw [hT]
    have e2 : elemTy cx T = e := by unfold elemTy; rw [hT]
    rw [e1, e2]
    split at h
    · rename_i a b ha hb
      simp only [Bool.and_eq_true] at h
      obtain ⟨⟨h1, h2⟩, h3, h4, _⟩ := h
      exact ⟨hT, by rw [ha, Ty.beq_eq h1], by rw [hb, Ty.beq_eq h2], h3, h4⟩
    · cases h
  · cases h

theorem did_makeMap (hcx : CxOk K.P cx) (h : RelB K s a w β) {T : TypeId} (hop : o.op = .makeMap T none) (hd : o.dst = some d) (he : eff cx s g o = some e) : Did K s a w o e := by
  simp only [eff, hop, hd, makeMapEff] at he
  split at he
  · rename_i m hobs hm
    obtain ⟨_, he⟩ := cond_some he
    subst he
    refine did_new (L := ⟨some w.heap.size, .slice none 0 0⟩) (w' := w.alloc (.map #[] 0)) (v := .map (some w.heap.size)) (fz := []) h h hobs (ext_alloc _ _) (fun b hb => by cases hb; exact Nat.le_refl _) rfl ?_ ?_ (.inr (.inr ⟨rfl, rfl, _, rfl, rfl⟩))
    · simp only [execOp, hop, Option.map_none, Instr.makeMap, Sem.run_bind, Sem.run_pure]
      rfl
    · intro _ _
      exact ⟨w.heap.size, #[], 0, rfl, World.alloc_heap_new _ _, fun e he => by simp at he⟩
  · cases he

theorem castD_self {t : Ty} (x : t.D) {y : t.D} (h : castD t t x = some y) : y = x := by
  obtain ⟨e, h⟩ := castD_some h
  exact h

/-- A map's block, and what a key finds there. -/
theorem map_find (hcx : CxOk K.P cx) (h : RelB K s a w β) {T : Nat} {tk tv : Ty} {inv : tk.D → tv.D → Prop} {q : Nat} (hq : s.obs q = some (some (.mm tk tv inv))) (ht : mapTys cx T tk tv = true) {key : Value} {x : tk.D} {M' : Nat → Prop} (hk : VRep K.P tk w M' key x) :
    ∃ b es ck kt et, (β q).blk = some b ∧ w.heap[b]? = some (.map es ck) ∧ K.P.underlying T = some (.map kt et) ∧ (∀ em, (Instr.checkKey em 10000 kt key).run K.P w = .ok () w) ∧
      (∀ e ∈ es, ∃ x y, VRep K.P tk w (Mset K.Mg s β) e.key x ∧ VRep K.P tv w (Mset K.Mg s β) e.val y ∧ inv x y) ∧ cx.ty et = some tv ∧ tv.zOk = true ∧
      (((Instr.findKey kt key es.toList).run K.P w = .ok none w) ∨
       ∃ j e, (Instr.findKey kt key es.toList).run K.P w = .ok (some (j, e.val)) w ∧ es[j]? = some e ∧ e.key = key ∧ (Instr.keyThatStays key key).run K.P w = .ok key w ∧ ∃ y, VRep K.P tv w (Mset K.Mg s β) e.val y ∧ inv x y) := by
  obtain ⟨h1, h2, h3, h4, h5⟩ := mapTys_eq ht
  obtain ⟨hu, hK, hkt⟩ := hcx.mty T _ _ h1
  obtain ⟨b, es, ck, hb, hh, hes⟩ := h.ob q _ hq
  obtain ⟨l, hl⟩ := keyOf_rep hcx.ty h2 hkt hk
  refine ⟨b, es, ck, _, _, hb, hh, hu, fun em => hK.check w em hl, hes, h3, h5, ?_⟩
  rcases hK.find w hl es.toList (fun e he => by
      obtain ⟨x, y, g1, _⟩ := hes e (by simpa using he)
      exact keyOf_rep hcx.ty h2 hkt g1) with ⟨g1, _⟩ | ⟨j, e, g1, g2, g3⟩
  · exact .inl g1
  · right
    have hmem : e ∈ es := by
      have := List.mem_of_getElem? g2
      simpa using this
    obtain ⟨x', y, k1, k2, k3⟩ := hes e hmem
    refine ⟨j, e, g1, by simpa using g2, g3, hK.stays w hl, y, k2, ?_⟩
    rw [g3] at k1
    rw [VRep.inj h4 hk k1]; exact k3

theorem did_mapUpdate (hcx : CxOk K.P cx) (h : RelB K s a w β) (hg : Hold a g) {T : TypeId} {m x y : Operand} (hop : o.op = .mapUpdate T m x y) (hd : o.dst = none) (he : eff cx s g o = some e) (hob : ∀ r, e.obl = some r → r) : DidS K s a w o e := by
  have hm := ev_rep (cx := cx) h hg T m
  have hx := ev_rep (cx := cx) h hg (keyTy cx T) x
  have hy := ev_rep (cx := cx) h hg (elemTy cx T) y
  simp only [eff, hop, hd] at he
  generalize ev cx s g T m = am at he hm
  generalize ev cx s g (keyTy cx T) x = ax at he hx
  generalize ev cx s g (elemTy cx T) y = ay at he hy
  unfold mapUpdateEff at he
  split at he
  · rename_i q
    split at he
    · rename_i tk tv inv hq
      simp only [AVRep, SVRep, hq] at hm
      obtain ⟨_, b, hb, em⟩ := hm
      split at he
      · rename_i xd yd ids fz hxd hs
        split at he
        · rename_i xx yy hxx hyy
          obtain ⟨hmt, he⟩ := cond_some he
          subst he
          have hinv : inv xx yy := hob _ rfl
          obtain ⟨h1, h2, h3, h4⟩ := solid_rep hcx h hs (show All2 _ [ay] [a.eval y] from ⟨hy, trivial⟩)
          have hkv := castD_vrep hxx (AV.dv_rep hcx h hx hxd (under_mg h fun q hq => open_live hq))
          have hvv : VRep K.P tv w (Mset K.Mg (after s fz) β) (a.eval y) yy := castD_vrep hyy h4.1
          have hq1 : (after s fz).obs q = some (some (.mm tk tv inv)) := by
            have : (after s fz).obs q = frO s ([ay].flatMap (AV.open? s)) q := by
              unfold solid at hs
              split at hs
              · cases hs; exact freeze_obs s _ q
              · cases hs
            rw [this]; unfold frO; rw [hq]; simp [frOb]
          obtain ⟨b', es, ck, kt, et, hb', hh, hu, hchk, hes, _, _, hfind⟩ := map_find hcx h1 hq1 hmt hkv
          rw [hb] at hb'; cases hb'
          have done : ∀ es' ck', (∀ e ∈ es', ∃ x y, VRep K.P tk w (Mset K.Mg (after s fz) β) e.key x ∧ VRep K.P tv w (Mset K.Mg (after s fz) β) e.val y ∧ inv x y) →
              (Instr.mapUpdate T (.map (some b)) (a.eval x) (a.eval y)).run K.P w = .ok () { w with heap := w.heap.setIfInBounds b (.map es' ck') } → DidS K s a w o ⟨some (inv xx yy), .un, q :: (ax.ids ++ ids), (q, some (.mm tk tv inv)) :: fz⟩ := by
            intro es' ck' hes' hrun
            have hblt : b < w.heap.size := (Array.getElem?_eq_some_iff.1 hh).1
            obtain ⟨k1, k2, k3⟩ := h1.write (ob' := .mm tk tv inv) (w' := { w with heap := w.heap.setIfInBounds b (.map es' ck') }) hq1 rfl rfl (.refl _) rfl rfl hb (by simp)
              (fun c hc => by simp [Array.getElem?_setIfInBounds_ne (Ne.symm hc)])
              (fun ht hc => ⟨b, es', ck', hb, by simp [hblt], fun e he => by
                obtain ⟨x, y, g1, g2, g3⟩ := hes' e he
                exact ⟨x, y, g1.tr ht, g2.tr ht, g3⟩⟩)
            refine ⟨_, β, ?_, k1⟩
            simp only [execOp, hop, em, hrun, Sem.run_bind, Result.andThen_ok, Sem.run_pure]
          have hkv' : VRep K.P tk w (Mset K.Mg (after s fz) β) (a.eval x) xx := hkv.flat (key_flat (mapTys_eq hmt).2.2.2.1)
          rcases hfind with hf | ⟨j, e, hf, hj, hke, hst, y', hy', _⟩
          · refine done (es.push { key := a.eval x, val := a.eval y, born := ck }) (ck + 1) ?_ ?_
            · intro e he
              rcases Array.mem_push.1 he with he | rfl
              · exact hes e he
              · exact ⟨xx, yy, hkv', hvv, hinv⟩
            · simp [Instr.mapUpdate, run_underlying hu, MapKept.run_getObj_map hh, hchk, hf, MapKept.run_setObj_map _ hh, Result.andThen]
          · refine done (es.modify j fun e => { e with key := a.eval x, val := a.eval y }) ck ?_ ?_
            · intro e' he'
              obtain ⟨i, hi, rfl⟩ := Array.mem_iff_getElem.1 he'
              rw [Array.getElem_modify]
              split
              · exact ⟨xx, yy, hkv', hvv, hinv⟩
              · exact hes _ (Array.getElem_mem _)
            · simp [Instr.mapUpdate, run_underlying hu, MapKept.run_getObj_map hh, hchk, hf, hj, hke, hst, MapKept.run_setObj_map _ hh, Result.andThen]
        · cases he
      · cases he
    · cases he
  · cases he
end
end Go.Sx
