/-
  The symbolic layer, part 13: new variables, composites.
-/
import Derived.Test.YtlkegffejcndbaaSxC
import Derived.Laws.Tables
import Derived.Laws.NewFold
import Derived.Great.FillDense
set_option linter.all false
namespace Go.Sx

theorem oneCell_of {c : Value} (h : (∀ l, c ≠ .agg l) ∧ ∀ l, c ≠ .tuple l) : c.oneCell' = true := by
  cases c <;> first | rfl | exact absurd rfl (h.1 _) | exact absurd rfl (h.2 _)
theorem Rep.oneCells {P : Program} {t : Ty} {w : World} {M : Nat → Prop} {cs : List Value} {x : t.D} (h : Rep P t w M cs x) : ∀ c ∈ cs, c.oneCell' = true := fun c hc => oneCell_of (h.noAgg c hc)

theorem ext_alloc (w : World) (ob : Obj) : Ext noM w (w.alloc ob) :=
  ⟨by show w.heap.size ≤ (w.heap.push ob).size; rw [Array.size_push]; omega, fun b hb _ => heap_alloc_old w ob b hb, rfl, rfl⟩
theorem ext_drew (w : World) : Ext noM w w.drew := ⟨Nat.le_refl _, fun _ _ _ => rfl, rfl, rfl⟩

theorem foldl_splice (off : Nat) (vs cs : Array Value) (h : off + vs.size ≤ cs.size) :
    (vs.zipIdx.foldl (fun cs (x : Value × Nat) => cs.setIfInBounds (off + x.2) x.1) cs).toList = splice cs.toList off vs.toList := by
  obtain ⟨h1, h2⟩ := Great.foldl_set off vs.toList 0 cs
  have e : vs.zipIdx.foldl (fun cs (x : Value × Nat) => cs.setIfInBounds (off + x.2) x.1) cs = (vs.toList.zipIdx 0).foldl (fun cs (x : Value × Nat) => cs.setIfInBounds (off + x.2) x.1) cs := by
    rw [← Array.foldl_toList, Array.toList_zipIdx]
  rw [e]
  apply List.ext_getElem?
  intro k
  rw [Array.getElem?_toList, h2 k]
  simp only [Nat.add_zero, Array.length_toList, splice]
  rw [List.getElem?_append, List.getElem?_append]
  simp only [List.length_take, Array.length_toList, List.getElem?_take, Array.getElem?_toList, List.getElem?_drop]
  have hmin : min off cs.size = off := by omega
  rw [hmin]
  by_cases hk : k < off
  · rw [if_neg (by omega), if_pos hk, if_pos hk]
  · rw [if_neg hk]
    by_cases hk2 : k < off + vs.size
    · rw [if_pos (by omega), if_pos (by omega)]
    · rw [if_neg (by omega), if_neg (by omega)]
      congr 1
      omega

/-- Parts put into cells. -/
theorem fill_rep {P : Program} {place : Nat → Option (Nat × Nat)} {t : Ty} {w : World} {M : Nat → Prop}
    (hplace : ∀ k q, partPath t k = some q → inP t q ∧ ∃ off tf, offP t q = some (off, tf) ∧ place k = some (off, tf.n)) :
    ∀ {parts : List (Nat × Dv)} {us : List (Nat × Value)} {cs : Array Value} {x y : t.D},
      All2 (fun (u : Nat × Value) (p : Nat × Dv) => u.1 = p.1 ∧ VRep P p.2.t w M u.2 p.2.x) us parts → Rep P t w M cs.toList x → putParts t x parts = some y →
      ∃ cs', Instr.fill place cs us = some cs' ∧ Rep P t w M cs'.toList y
  | [], [], cs, x, y, _, hr, hp => by
    simp only [putParts, Option.some.injEq] at hp
    subst hp
    exact ⟨cs, rfl, hr⟩
  | (k, v) :: parts, (j, u) :: us, cs, x, y, hall, hr, hp => by
    obtain ⟨⟨hj, hu⟩, hall⟩ := hall
    have hj : j = k := hj
    subst hj
    simp only [putParts] at hp
    split at hp
    · rename_i q hq
      split at hp
      · rename_i x' hx'
        obtain ⟨hin, off, tf, ho, hpl⟩ := hplace j q hq
        obtain ⟨hu1, hu2⟩ := hu.cells
        obtain ⟨off', ho', hle, hr'⟩ := setP_rep hr hx' hin hu1
        rw [ho] at ho'
        simp only [Option.some.injEq, Prod.mk.injEq] at ho'
        obtain ⟨rfl, rfl⟩ := ho'
        have hlen := hu1.length
        simp only [Array.length_toList] at hlen hle
        have hsp := foldl_splice off u.cells cs (by rw [hlen]; exact hle)
        obtain ⟨cs', h1, h2⟩ := fill_rep hplace (cs := u.cells.zipIdx.foldl (fun cs (x : Value × Nat) => cs.setIfInBounds (off + x.2) x.1) cs) hall (by rw [hsp]; exact hr') hp
        refine ⟨cs', ?_, h2⟩
        unfold Instr.fill
        simp only [hpl]
        rw [if_neg (by simp only [hlen]; simp; exact hle)]
        exact h1
      · cases hp
    · cases hp
  | [], _ :: _, _, _, _, h, _, _ => h.elim
  | _ :: _, [], _, _, _, h, _, _ => h.elim

theorem puts_other {α : Type} {f : Nat → α} {o : Nat} : ∀ {r : List (Nat × α)}, (∀ x ∈ r, x.1 ≠ o) → puts f r o = f o
  | [], _ => rfl
  | (k, v) :: r, h => by
    rw [puts_map_cons, put_other _ _ (fun e => h (k, v) List.mem_cons_self e.symm)]
    exact puts_other fun x hx => h x (List.mem_cons_of_mem _ hx)

section
variable {K : Ctx} {s : ASt} {a : Act} {w w' : World} {β : Nat → Loc} {cx : Cx} {g : List (Nat × Bool)} {o : Oper} {e : Eff} {d : Nat}

theorem frO_none {ids : List Nat} {x : Nat} (h : s.obs x = none) : frO s ids x = none := by
  unfold frO; rw [h]
theorem solid_none {l : List AV} {vs : List Dv} {ids : List Nat} {fz : List (Nat × Option Ob)} (hs : solid cx s l = some (vs, ids, fz)) {x : Nat} (hx : s.obs x = none) : (after s fz).obs x = none := by
  unfold solid at hs
  split at hs
  · cases hs
    show puts s.obs ((freeze s _).map fun x => (x.1, some x.2)) x = none
    rw [freeze_obs, frO_none hx]
  · cases hs
theorem memN_iff {x : Nat} : ∀ {l : List Nat}, memN x l = true ↔ x ∈ l
  | [] => by simp [memN]
  | y :: l => by
    simp only [memN, Bool.or_eq_true, List.mem_cons, memN_iff (l := l)]
    refine or_congr ⟨Nat.eq_of_beq_eq_true, fun e => ?_⟩ Iff.rfl
    subst e; exact Nat.beq_refl x
theorem after_other {fz : List (Nat × Option Ob)} {x : Nat} (h : memN x (fz.map (·.1)) = false) : (after s fz).obs x = s.obs x := by
  refine puts_other fun y hy e => ?_
  obtain ⟨z, hz, rfl⟩ := List.mem_map.1 hy
  have : memN x (fz.map (·.1)) = true := memN_iff.2 (e ▸ List.mem_map_of_mem hz)
  rw [h] at this; cases this

/-- A new object, behind what was made solid. -/
theorem did_new (h : RelB K s a w β) {fz : List (Nat × Option Ob)} (h1 : RelB K (after s fz) a w β) (hn : (after s fz).obs d = none) {ob : Ob} {L : Loc} {v : Value} (hx : Ext noM w w') (hL : ∀ b, L.blk = some b → w.heap.size ≤ b)
    (he : e.wr = (d, some ob) :: fz) (hr : (execOp a.eval o).run K.P w = .ok (.value v) w')
    (hob : Tr (Mset K.Mg (after s fz) β) w (Mset K.Mg { (after s fz) with obs := put (after s fz).obs d (some (some ob)) } (Sx.put β d L)) w' → Compat (after s fz) β { (after s fz) with obs := put (after s fz).obs d (some (some ob)) } (Sx.put β d L) → ObRep K.P { (after s fz) with obs := put (after s fz).obs d (some (some ob)) } (Sx.put β d L) w' (Mset K.Mg { (after s fz) with obs := put (after s fz).obs d (some (some ob)) } (Sx.put β d L)) L ob)
    (hv : (∃ b, e.av = .s (.ptr d []) ∧ inOb ob [] ∧ obPos ob [] = some 0 ∧ L.blk = some b ∧ v = .pointer (some ⟨b, 0, none⟩)) ∨ (e.av = .s (.os d) ∧ isRow ob = true ∧ L.hdr = v) ∨ (e.av = .s (.mp d) ∧ isMm ob = true ∧ ∃ b, L.blk = some b ∧ v = .map (some b))) : Did K s a w o e := by
  have hng : isGh ob = false := by
    rcases hv with ⟨b, _, h2, h3, _⟩ | ⟨_, h2, _⟩ | ⟨_, h2, _⟩ <;> cases ob <;> first | rfl | exact h2.elim | cases h2
  obtain ⟨g1, g2, g3⟩ := h1.new hn hx hL hng (ob := ob) (by
    intro ht
    refine hob ht ?_
    refine ⟨fun x hx => ?_, fun x ob' hx => .inr ⟨ob', ?_, ?_, .refl _⟩⟩
    · show put _ d _ x = _
      rw [put_other _ _ (fun e => by rw [e, hn] at hx; cases hx)]; exact hx
    · show put _ d _ x = _
      rw [put_other _ _ (fun e => by rw [e, hn] at hx; cases hx)]; exact hx
    · rw [put_other _ _ (fun e => by rw [e, hn] at hx; cases hx)])
  have ea : after s e.wr = { (after s fz) with obs := put (after s fz).obs d (some (some ob)) } := by rw [he]; rfl
  refine ⟨v, w', Sx.put β d L, hr, by rw [ea]; exact g1, ?_⟩
  rw [ea]
  rcases hv with ⟨b, h1, h2, h3, h4, h5⟩ | ⟨h1, h2, h3⟩ | ⟨h1, h2, h3⟩
  · rw [h1]
    simp only [AVRep, SVRep, put_same]
    exact ⟨h2, b, 0, h4, h3, h5⟩
  · rw [h1]
    simp only [AVRep, SVRep, put_same]
    exact ⟨h2, h3.symm⟩
  · rw [h1]
    simp only [AVRep, SVRep, put_same]
    exact ⟨h2, h3⟩

theorem one_val (hrel : RelB K s a w β) {x : AV} {v : Value} (h : AVRep K.P s β w (Mset K.Mg s β) x v) (ho : x.one s = true) : v.cells = #[v] ∧ v.oneCell' = true := by
  cases x with
  | un => cases ho
  | yl _ => cases ho
  | tup l => cases ho
  | clo f c => obtain ⟨vs, rfl, _⟩ := h; exact ⟨rfl, rfl⟩
  | s x =>
    cases x with
    | d t y =>
      simp only [AV.one, Bool.not_eq_true'] at ho
      obtain ⟨cs, h1, rfl⟩ := h
      obtain ⟨v, rfl, h2, h3⟩ := h1.single ho
      simp only [pack, ho, cond_false, List.headD_cons]
      exact ⟨h2, oneCell_of h3⟩
    | nl e t => rw [show v = _ from h]; exact ⟨rfl, rfl⟩
    | mp ob =>
      simp only [AV.one, live] at ho
      simp only [AVRep, SVRep] at h
      split at ho
      · rename_i o' hh
        rw [hh] at h
        obtain ⟨_, b, _, rfl⟩ := h
        exact ⟨rfl, rfl⟩
      · cases ho
    | ptr ob p =>
      simp only [AV.one, live] at ho
      simp only [AVRep, SVRep] at h
      split at ho
      · rename_i o' hh
        rw [hh] at h
        obtain ⟨_, b, off, _, _, rfl⟩ := h
        exact ⟨rfl, rfl⟩
      · cases ho
    | os ob =>
      simp only [AV.one, live] at ho
      simp only [AVRep, SVRep] at h
      split at ho
      · rename_i o' hh
        rw [hh] at h
        obtain ⟨hr, rfl⟩ := h
        cases o' with
        | bx _ _ _ => cases hr
        | bv _ => cases hr
        | mm _ _ _ => cases hr
        | gh _ _ => cases hr
        | row f e t l =>
          obtain ⟨_, _, vss, _, hown⟩ := hrel.ob _ _ hh
          rcases hown.2 with ⟨e1, _⟩ | ⟨gg, cap, cur, e1, _⟩ <;> rw [e1] <;> exact ⟨rfl, rfl⟩
      · cases ho

theorem did_alloc (hcx : CxOk K.P cx) (h : RelB K s a w β) {T : TypeId} (hop : o.op = .alloc T) (hd : o.dst = some d) (he : eff cx s g o = some e) : Did K s a w o e := by
  simp only [eff, hop, hd] at he
  split at he
  · cases he
  · rename_i hobs
    cases hb : (memN d cx.bvs && cx.one T) with
    | true =>
      rw [hb] at he
      simp only [cond_true, Option.some.injEq] at he
      subst he
      have hone : cx.one T = true := by simp only [Bool.and_eq_true] at hb; exact hb.2
      obtain ⟨z, hz1, hz2, hz3, hz4⟩ := (hcx.one T hone).zero
      refine did_new (L := ⟨some w.heap.size, undef⟩) (w' := w.alloc (.cells #[z] T)) (v := .pointer (some ⟨w.heap.size, 0, none⟩)) h (fz := []) h hobs (ext_alloc _ _) (fun b hb => by cases hb; exact Nat.le_refl _) rfl ?_ ?_ (.inl ⟨_, rfl, trivial, rfl, rfl, rfl⟩)
      · simp [execOp, hop, Instr.alloc, hz4, newVar, newRow, hz1]
      · intro ht hc
        refine ⟨_, z, T, rfl, heap_alloc_new _ _, ?_⟩
        split
        · rename_i t hT
          have := (hcx.ty T _ hT).zero rfl w
          rw [hz4] at this
          cases this
          rfl
        · trivial
    | false =>
      rw [hb] at he
      simp only [cond_false] at he
      split at he
      · rename_i v hv
        simp only [Option.some.injEq] at he
        subst he
        unfold zeroOf at hv
        split at hv
        · rename_i t hT
          cases hz : t.zOk with
          | false => rw [hz] at hv; cases hv
          | true =>
            rw [hz] at hv
            simp only [cond_true, Option.some.injEq] at hv
            subst hv
            have hv1 : VRep K.P t w (Mset K.Mg s β) (pack t (zc t)) t.z := ⟨_, zc_rep t w _ hz, rfl⟩
            refine did_new (L := ⟨some w.heap.size, undef⟩) (w' := w.alloc (.cells (pack t (zc t)).cells T)) (v := .pointer (some ⟨w.heap.size, 0, none⟩)) h (fz := []) h hobs (ext_alloc _ _) (fun b hb => by cases hb; exact Nat.le_refl _) rfl ?_ ?_ (.inl ⟨_, rfl, by cases t <;> trivial, ?_, rfl, rfl⟩)
            · simp [execOp, hop, Instr.alloc, (hcx.ty T t hT).zero hz, newVar, newRow]
            · intro ht hc
              exact ⟨_, _, T, rfl, by rw [Array.toArray_toList]; exact heap_alloc_new _ _, hv1.cells.1.tr ht⟩
            · simp [obPos, show offP t [] = some (0, t) from by cases t <;> rfl]
        · cases hv
      · cases he

theorem inP_nil (t : Ty) : inP t [] := by cases t <;> trivial
theorem offP_nil (t : Ty) : offP t [] = some (0, t) := by cases t <;> rfl

theorem did_box (hcx : CxOk K.P cx) (h : RelB K s a w β) (hg : Hold a g) {T : TypeId} {x : Operand} (hop : o.op = .box T x) (hd : o.dst = some d) (he : eff cx s g o = some e) : Did K s a w o e := by
  have hx := ev_rep (cx := cx) h hg T x
  simp only [eff, hop, hd] at he
  split at he
  · cases he
  · rename_i hobs
    cases hb : (memN d cx.bvs && (ev cx s g T x).one s) with
    | true =>
      rw [hb] at he
      simp only [cond_true, Option.some.injEq] at he
      subst he
      simp only [Bool.and_eq_true] at hb
      obtain ⟨h1, _⟩ := one_val h hx hb.2
      refine did_new (L := ⟨some w.heap.size, undef⟩) (w' := w.alloc (.cells #[a.eval x] T)) (v := .pointer (some ⟨w.heap.size, 0, none⟩)) h (fz := []) h hobs (ext_alloc _ _) (fun b hb => by cases hb; exact Nat.le_refl _) rfl ?_ ?_ (.inl ⟨_, rfl, trivial, rfl, rfl, rfl⟩)
      · simp [execOp, hop, Instr.box, newVar, newRow, h1]
      · intro ht hc
        exact ⟨_, a.eval x, T, rfl, heap_alloc_new _ _, hx.next hc ht⟩
    | false =>
      rw [hb] at he
      simp only [cond_false] at he
      split at he
      · rename_i t w₀ ids fz hT hs
        split at he
        · rename_i y hy
          obtain ⟨h1, h2, h3, h4⟩ := solid_rep hcx h hs (us := [a.eval x]) ⟨hx, trivial⟩
          have hv := castD_vrep hy h4.1
          have hn := solid_none hs hobs
          cases hm : memN d cx.mbx with
          | true =>
            rw [hm] at he
            simp only [cond_true, Option.some.injEq] at he
            subst he
            refine did_new (L := ⟨some w.heap.size, undef⟩) (w' := w.alloc (.cells (a.eval x).cells T)) (v := .pointer (some ⟨w.heap.size, 0, none⟩)) h (fz := fz) h1 hn (ext_alloc _ _) (fun b hb => by cases hb; exact Nat.le_refl _) rfl ?_ ?_ (.inl ⟨_, rfl, inP_nil t, ?_, rfl, rfl⟩)
            · simp [execOp, hop, Instr.box, newVar, newRow]
            · intro ht hc
              exact ⟨_, _, T, rfl, by rw [Array.toArray_toList]; exact heap_alloc_new _ _, hv.cells.1.tr ht⟩
            · simp [obPos, offP_nil]
          | false =>
            rw [hm] at he
            simp only [cond_false, Option.some.injEq] at he
            subst he
            obtain ⟨g1, g2⟩ := h1.grow (ext_alloc w (.cells (a.eval x).cells T))
            refine ⟨.pointer (some ⟨w.heap.size, 0, none⟩), w.alloc (.cells (a.eval x).cells T), β, ?_, g1, ⟨_, ⟨_, 0, _, rfl, ⟨?_, ?_⟩, hv.cells.1.tr g2, (a.eval x).cells, T, (0, 0), heap_alloc_new _ _, ?_⟩, rfl⟩⟩
            · simp [execOp, hop, Instr.box, newVar, newRow]
            · show w.heap.size < (w.heap.push _).size
              rw [Array.size_push]; omega
            · intro hm
              exact absurd (h1.mset_lt hm) (by omega)
            · intro j v hj
              simpa using hj
        · cases he
      · cases he
end
end Go.Sx
