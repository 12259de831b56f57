/-
  The symbolic layer, part 14: composites.
-/
import Derived.Test.YtlkegffejcndbaaSxD
import Derived.Great.BuildSlice
set_option linter.all false
namespace Go.Sx

/-! ### Structs and rows put together -/
theorem places_of {P : Program} {ty : Nat → Option Ty} {el : Nat → Nat} (hty : ∀ T t, ty T = some t → TyF P ty el T t) : ∀ {fs : List Field} {ts : List Ty} {o : Nat}, fieldsAre ty fs ts o = true →
    ∃ places : List (Nat × Nat), fs.mapM (fun f => (P.info? f.type).map fun i => (f.offset, i.size)) = some places ∧ ∀ (k : Nat) (f : Field) (tf : Ty), fs[k]? = some f → ty f.type = some tf → places[k]? = some (f.offset, tf.n)
  | [], [], _, _ => ⟨[], rfl, fun k f tf h => by simp at h⟩
  | f :: fs, t :: ts, o, h => by
    simp only [fieldsAre, Bool.and_eq_true] at h
    obtain ⟨h1, _, _, _, h2⟩ := h
    obtain ⟨pl, g1, g2⟩ := places_of hty h2
    have ht := tyIs_eq h1
    obtain ⟨i, _, hi, _, hsz, _⟩ := (hty _ _ ht).info
    refine ⟨(f.offset, t.n) :: pl, ?_, ?_⟩
    · simp [List.mapM_cons, hi, g1, hsz]
    · intro k f' tf hk htf
      cases k with
      | zero =>
        simp only [List.getElem?_cons_zero, Option.some.injEq] at hk
        subst hk
        rw [ht] at htf; cases htf
        rfl
      | succ k => simpa using g2 k f' tf (by simpa using hk) htf
  | [], _ :: _, _, h => by cases h
  | _ :: _, [], _, h => by cases h

theorem parts_rep {P : Program} {w : World} {M : Nat → Prop} : ∀ {ps : List (Nat × Operand)} {us : List Value} {vs : List Dv} {ρ : Operand → Value}, us = ps.map (fun x => ρ x.2) → All2 (fun (u : Value) (d : Dv) => VRep P d.t w M u d.x) us vs →
    All2 (fun (u : Nat × Value) (p : Nat × Dv) => u.1 = p.1 ∧ VRep P p.2.t w M u.2 p.2.x) (ps.map fun x => (x.1, ρ x.2)) ((ps.map (·.1)).zip vs)
  | [], us, vs, ρ, hu, h => by
    subst hu
    cases vs with
    | nil => trivial
    | cons _ _ => exact h.elim
  | p :: ps, us, vs, ρ, hu, h => by
    subst hu
    cases vs with
    | nil => exact h.elim
    | cons v vs => exact ⟨⟨rfl, h.1⟩, parts_rep rfl h.2⟩

section
variable {K : Ctx} {s : ASt} {a : Act} {w w' : World} {β : Nat → Loc} {cx : Cx} {g : List (Nat × Bool)} {o : Oper} {e : Eff} {d : Nat}

theorem evs_rep (h : RelB K s a w β) (hg : Hold a g) : ∀ ps : List (Nat × Operand), All2 (AVRep K.P s β w (Mset K.Mg s β)) (ps.map fun x => ev cx s g 0 x.2) (ps.map fun x => a.eval x.2)
  | [] => trivial
  | p :: ps => ⟨ev_rep h hg 0 p.2, evs_rep h hg ps⟩

theorem arr_place {n : Nat} {t : Ty} (k : Nat) (q : List Stp) (h : partPath (.arr n t) k = some q) : inP (.arr n t) q ∧ ∃ off tf, offP (.arr n t) q = some (off, tf) ∧ (some (k * t.n, t.n) : Option (Nat × Nat)) = some (off, tf.n) := by
  simp only [partPath] at h
  cases hb : Nat.ble (k + 1) n with
  | false => rw [hb] at h; cases h
  | true =>
    rw [hb] at h
    simp only [cond_true, Option.some.injEq] at h
    subst h
    refine ⟨⟨Nat.le_of_ble_eq_true hb, inP_nil t⟩, k * t.n, t, ?_, rfl⟩
    simp [offP, offP_nil]

theorem pack_cells {t : Ty} {cs : List Value} {P : Program} {w : World} {M : Nat → Prop} {x : t.D} (h : Rep P t w M cs x) : (pack t cs).cells = cs.toArray := by
  cases ha : t.agg with
  | true => simp [pack, ha, Value.cells]
  | false =>
    obtain ⟨v, rfl, hv, _⟩ := h.single ha
    simp only [pack, ha, cond_false, List.headD_cons, hv]

theorem did_build (hcx : CxOk K.P cx) (h : RelB K s a w β) (hg : Hold a g) {T : TypeId} {ps : Array (Nat × Operand)} (hop : o.op = .build T ps) (hd : o.dst = some d) (he : eff cx s g o = some e) : Did K s a w o e := by
  simp only [eff, hop, hd] at he
  split at he
  · rename_i t z vs ids fz hz hs
    split at he
    · rename_i y hy
      cases hag : t.agg with
      | false => rw [hag] at he; cases he
      | true =>
      rw [hag] at he
      simp only [cond_true, Option.some.injEq] at he
      subst he
      unfold zeroOf at hz
      split at hz
      · rename_i t' hT
        cases hzo : t'.zOk with
        | false => rw [hzo] at hz; cases hz
        | true =>
          rw [hzo] at hz
          simp only [cond_true, Option.some.injEq, Dv.mk.injEq] at hz
          obtain ⟨rfl, hz⟩ := hz
          have hz := eq_of_heq hz
          subst hz
          obtain ⟨h1, h2, h3, h4⟩ := solid_rep hcx h hs (evs_rep h hg ps.toList)
          have hp := parts_rep (ρ := a.eval) rfl h4
          have hzr := zc_rep (P := K.P) t' w (Mset K.Mg (after s fz) β) hzo
          have htf := hcx.ty T t' hT
          have hcl := pack_cells hzr
          obtain ⟨it, dd, i1, i2, i3, i4, i5, i6, i7, _⟩ := htf.info
          have hzr' : Rep K.P t' w (Mset K.Mg (after s fz) β) (pack t' (zc t')).cells.toList t'.z := by rw [hcl]; exact hzr
          have key : ∃ cs', K.P.built T (ps.toList.map fun x => (x.1, a.eval x.2)) = some cs' ∧ Rep K.P t' w (Mset K.Mg (after s fz) β) cs'.toList y := by
            cases t' with
            | st sp =>
              have hu : ∃ fs : Array Field, dd = .struct fs := by cases dd <;> simp [descIs] at i7 <;> exact ⟨_, rfl⟩
              obtain ⟨fs, rfl⟩ := hu
              obtain ⟨pl, p1, p2⟩ := places_of hcx.ty (show fieldsAre cx.ty fs.toList (comps sp) 0 = true from i7)
              obtain ⟨cs', c1, c2⟩ := fill_rep (place := (pl.toArray[·]?)) (by
                intro k q hq
                obtain ⟨fs', f, tf, f1, f2, f3, f4, _, f6⟩ := field_facts htf hq
                rw [i2] at f1
                cases f1
                exact ⟨f6, _, tf, f3, by simpa using p2 k f tf (by simpa using f2) f4⟩) hp hzr' hy
              refine ⟨cs', ?_, c2⟩
              unfold Program.built
              simp only [i1, i2, i6 hzo, p1]
              exact c1
            | arr n t =>
              have hu : ∃ E, dd = .array n E ∧ cx.ty E = some t := by
                cases dd <;> simp [descIs] at i7
                obtain ⟨j1, j2, _⟩ := i7
                subst j1
                exact ⟨_, rfl, tyIs_eq j2⟩
              obtain ⟨E, rfl, hE⟩ := hu
              obtain ⟨ie, _, e1, _, e2, _⟩ := (hcx.ty E t hE).info
              obtain ⟨cs', c1, c2⟩ := fill_rep (place := fun i => some (i * t.n, t.n)) (fun k q hq => arr_place k q hq) hp hzr' hy
              refine ⟨cs', ?_, c2⟩
              unfold Program.built
              simp only [i1, i2, i6 hzo, e1, e2]
              exact c1
            | _ => cases dd <;> simp [descIs, Ty.agg] at i7 hag
          obtain ⟨cs', k1, k2⟩ := key
          refine ⟨.agg cs', w, β, ?_, h1, ⟨_, k2, by simp [pack, hag]⟩⟩
          have := run_build (P := K.P) w T (ps.map fun x => (x.1, a.eval x.2)) cs' (by simpa using k1)
          simp [execOp, hop, this]
      · cases hz
    · cases he
  · cases he

theorem flat_rep_get {l : List Value} {k : Nat} (hk : l.length = k) : ∀ (n j : Nat), j < n * k → (List.replicate n l).flatten[j]? = l[j % k]?
  | 0, j, h => by omega
  | n + 1, j, h => by
    rw [List.replicate_succ, List.flatten_cons]
    by_cases hj : j < k
    · rw [List.getElem?_append_left (by omega), Nat.mod_eq_of_lt hj]
    · rw [List.getElem?_append_right (by omega), hk, flat_rep_get hk n (j - k) (by rw [Nat.add_mul] at h; omega), ← Nat.mod_eq_sub_mod (by omega)]
theorem flat_rep_length {l : List Value} {k : Nat} (hk : l.length = k) (n : Nat) : (List.replicate n l).flatten.length = n * k := by
  rw [flatten_length (k := k) (fun c hc => by rw [(List.mem_replicate.1 hc).2]; exact hk), List.length_replicate]
theorem made_list {l : List Value} {k : Nat} (hk : l.length = k) (n : Nat) : (madeCells l.toArray (n * k)).toList = (List.replicate n l).flatten := by
  apply List.ext_getElem?
  intro j
  by_cases hj : j < n * k
  · rw [flat_rep_get hk n j hj]
    have hk0 : 0 < k := by rcases Nat.eq_zero_or_pos k with h | h; · rw [h] at hj; omega
                           · exact h
    have hm := Nat.mod_lt j hk0
    simp only [madeCells, Array.toList_map, Array.toList_range, List.getElem?_map, List.getElem?_range hj, Option.map_some, List.size_toArray, hk]
    rw [getElem!_pos l.toArray (j % k) (by simpa [hk] using hm)]
    simp [List.getElem?_eq_getElem (show j % k < l.length by omega)]
  · rw [List.getElem?_eq_none (by simp [size_madeCells]; omega), List.getElem?_eq_none (by rw [flat_rep_length hk]; omega)]

theorem maxLen_big : 140737488355328 ≤ maxLen := by decide

theorem did_buildSlice (hcx : CxOk K.P cx) (h : RelB K s a w β) (hg : Hold a g) {T : TypeId} {n : Nat} {ps : Array (Nat × Operand)} (hop : o.op = .buildSlice T n ps) (hd : o.dst = some d) (he : eff cx s g o = some e) : Did K s a w o e := by
  simp only [eff, hop, hd] at he
  split at he
  · rename_i t vs ids fz hobs hT hs
    split at he
    · rename_i y hy
      cases hz : (t.zOk && Nat.ble (n * t.n) 16777216) with
      | false => rw [hz] at he; cases he
      | true =>
        rw [hz] at he
        simp only [cond_true] at he
        simp only [Bool.and_eq_true] at hz
        obtain ⟨hz, hsm⟩ := hz
        have hsm := Nat.le_of_ble_eq_true hsm
        obtain ⟨hu, hE, hn0⟩ := sl_facts (hcx.ty T _ hT)
        have hEf := hcx.ty _ _ hE
        obtain ⟨ie, _, e1, _, e2, _, _, e3, _⟩ := hEf.info
        obtain ⟨h1, h2, h3, h4⟩ := solid_rep hcx h hs (evs_rep h hg ps.toList)
        have hp := parts_rep (ρ := a.eval) rfl h4
        have hzr := zc_rep (P := K.P) t w (Mset K.Mg (after s fz) β) hz
        have hcl := pack_cells hzr
        have hlen := hzr.length
        have hml := made_list hlen n
        have hr0 : Rep K.P (.arr n t) w (Mset K.Mg (after s fz) β) (madeCells (zc t).toArray (n * t.n)).toList (Z.rep n t.z) := by
          rw [hml]
          exact ⟨List.replicate n (zc t), rfl, All2.replicate hzr n, by simp [Z.rep]⟩
        obtain ⟨cs', c1, c2⟩ := fill_rep (place := fun i => some (i * t.n, t.n)) (fun k q hq => arr_place k q hq) hp hr0 hy
        have hcl' := c2.length
        obtain ⟨vss, v1, v2, v3⟩ := c2
        have hn := solid_none hs hobs
        have hnle : n ≤ 16777216 := Nat.le_trans (Nat.le_mul_of_pos_right n (by omega)) hsm
        have hex : (execOp a.eval o).run K.P w = .ok (.value (.slice (some ⟨w.heap.size, 0, none⟩) n n)) (w.alloc (.cells cs' (cx.el T))) := by
          by_cases h0 : n * t.n = 0
          · have hc0 : madeCells (zc t).toArray (n * t.n) = #[] := by rw [h0]; exact Array.eq_empty_of_size_eq_zero (size_madeCells _ _)
            rw [hc0] at c1
            simp [execOp, hop, Instr.buildSlice, run_underlying hu, sizeOf, typeInfo, e1, e2, h0, newRow, Array.range_zero', c1]
          · have := run_buildSlice (P := K.P) w T (cx.el T) n (ps.map fun x => (x.1, a.eval x.2)) cs' ie (pack t (zc t)) hu e1 (e3 hz) (by rw [e2]; omega) (by rw [e2]; exact h0) (by
              rw [e2, hcl]
              simpa [madeCells] using c1)
            simp [execOp, hop, this]
        cases hgi : g.isEmpty with
        | true =>
          rw [hgi] at he
          simp only [cond_true, Option.some.injEq] at he
          subst he
          refine did_new (L := ⟨some w.heap.size, .slice (some ⟨w.heap.size, 0, none⟩) n n⟩) (w' := w.alloc (.cells cs' (cx.el T))) (v := .slice (some ⟨w.heap.size, 0, none⟩) n n) h (fz := fz) h1 hn (ext_alloc _ _) (fun b hb => by cases hb; exact Nat.le_refl _) rfl hex ?_ (.inr (.inl ⟨rfl, rfl, rfl⟩))
          intro ht hc
          refine ⟨?_, rfl, vss, v2.mono fun _ _ h => h.tr ht, ?_, .inr ⟨_, n, cs', ?_, Nat.zero_le _, heap_alloc_new _ _, ?_, ?_, ?_, ?_⟩⟩
          · show (y : List t.D).length ≤ _
            rw [v3]; omega
          · show _ = (y : List t.D).length * _
            rw [← v1, v3]; exact hcl'
          · show _ = Value.slice _ (y : List t.D).length _
            rw [v3]
          · show (y : List t.D).length ≤ _
            rw [v3]; exact Nat.le_refl _
          · have := maxLen_big; omega
          · simpa [Ty.n] using hcl'
          · show List.take ((y : List t.D).length * _) _ = _
            rw [v3, ← v1]
            have : cs'.toList.length = n * t.n := hcl'
            rw [← this, List.take_length]
        | false =>
          rw [hgi] at he
          simp only [cond_false, Option.some.injEq] at he
          subst he
          obtain ⟨g1, g2⟩ := h1.grow (ext_alloc w (.cells cs' (cx.el T)))
          refine ⟨_, _, β, hex, g1, ⟨_, ⟨some ⟨w.heap.size, 0, none⟩, n, rfl, ?_, .inr ⟨w.heap.size, 0, vss, rfl, ⟨?_, ?_⟩, v2.mono fun _ _ h => h.tr g2, cs', cx.el T, (0, 0), heap_alloc_new _ _, ?_⟩⟩, ?_⟩⟩
          · show (y : List t.D).length ≤ _
            rw [v3]; omega
          · show w.heap.size < (w.heap.push _).size
            rw [Array.size_push]; omega
          · intro hm
            exact absurd (h1.mset_lt hm) (by omega)
          · intro j v hj
            rw [← v1] at hj
            simpa using hj
          · show Value.slice _ n n = pack (.sl t) [Value.slice _ (y : List t.D).length n]
            rw [v3]
            rfl
    · cases he
  · cases he

theorem take_flat_rep {l : List Value} {k : Nat} (hk : l.length = k) {n m : Nat} (h : n ≤ m) : (List.replicate m l).flatten.take (n * k) = (List.replicate n l).flatten := by
  have : m = n + (m - n) := by omega
  rw [this, ← List.replicate_append_replicate, List.flatten_append, List.take_left' (flat_rep_length hk n)]

theorem roomy_bytes {b c : Nat} {n : Int} (h0 : 0 ≤ n) (hb : b ≤ 24 * c + 8) (h : Z.roomy (c : Int) n) : (b : Int) * n ≤ 140737488355328 := by
  have h1 : (b : Int) * n ≤ (24 * (c : Int) + 8) * n := Int.mul_le_mul_of_nonneg_right (by omega) h0
  have h2 : (24 * (c : Int) + 8) * n ≤ 140737488355328 := by rw [Int.mul_comm]; exact h
  omega
theorem roomy_le {c : Nat} {n : Int} (h0 : 0 ≤ n) (h : Z.roomy (c : Int) n) : n ≤ 17592186044416 := by
  have h1 : n * 8 ≤ n * (24 * (c : Int) + 8) := Int.mul_le_mul_of_nonneg_left (by omega) h0
  have h2 : n * (24 * (c : Int) + 8) ≤ 140737488355328 := h
  omega

theorem did_makeSlice (hcx : CxOk K.P cx) (h : RelB K s a w β) (hg : Hold a g) {T : TypeId} {x y : Operand} (hop : o.op = .makeSlice T x y) (hd : o.dst = some d) (he : eff cx s g o = some e) (hob : ∀ r, e.obl = some r → r) : Did K s a w o e := by
  have hx := ev_rep (cx := cx) h hg 0 x
  have hy := ev_rep (cx := cx) h hg 0 y
  simp only [eff, hop, hd] at he
  split at he
  · rename_i t n m hobs hT hn hm
    rw [hn] at hx; rw [hm] at hy
    obtain ⟨ex, _, _⟩ := int_val hx
    obtain ⟨ey, _, _⟩ := int_val hy
    cases hz : t.zOk with
    | false => rw [hz] at he; cases he
    | true =>
      rw [hz] at he
      simp only [cond_true, Option.some.injEq] at he
      subst he
      obtain ⟨⟨hn0, hnm⟩, hroom⟩ := hob _ rfl
      have hn0 : (0 : Int) ≤ n := hn0
      have hnm : (n : Int) ≤ m := hnm
      have hroom : Z.roomy (t.n : Int) m := hroom
      obtain ⟨hu, hE, hk0⟩ := sl_facts (hcx.ty T _ hT)
      have hEf := hcx.ty _ _ hE
      obtain ⟨ie, _, e1, _, e2, eb, _, e3, _⟩ := hEf.info
      have hm0 : (0 : Int) ≤ m := Int.le_trans hn0 hnm
      have hb := roomy_bytes hm0 eb hroom
      have hle := roomy_le hm0 hroom
      have hzr := zc_rep (P := K.P) t w (Mset K.Mg s β) hz
      have hcl := pack_cells hzr
      have hlen := hzr.length
      have hrun := run_make (P := K.P) w T (cx.el T) ie (pack t (zc t)) hu e1 (e3 hz) .i64 .i64 n m hn0 hnm (by omega) (by omega)
      have hnn : Int.toNat n ≤ Int.toNat m := by omega
      have hml := made_list hlen (Int.toNat m)
      refine did_new (L := ⟨some w.heap.size, .slice (some ⟨w.heap.size, 0, none⟩) (Int.toNat n) (Int.toNat m)⟩) (w' := w.alloc (.cells (madeCells (pack t (zc t)).cells (Int.toNat m * ie.size)) (cx.el T))) (v := .slice (some ⟨w.heap.size, 0, none⟩) (Int.toNat n) (Int.toNat m)) h (fz := []) h hobs (ext_alloc _ _) (fun b hb => by cases hb; exact Nat.le_refl _) rfl ?_ ?_ (.inr (.inl ⟨rfl, rfl, rfl⟩))
      · simp [execOp, hop, ex, ey, hrun]
      · intro ht hc
        have hzl : (Z.rep (Z.nat n) t.z).length = Int.toNat n := by simp [Z.rep, Z.nat]
        refine ⟨?_, rfl, List.replicate (Int.toNat n) (zc t), All2.replicate (hzr.tr ht) _, ?_, .inr ⟨_, Int.toNat m, _, ?_, Nat.zero_le _, heap_alloc_new _ _, ?_, ?_, ?_, ?_⟩⟩
        · show (Z.rep (Z.nat n) t.z).length ≤ _
          rw [hzl]; omega
        · show _ = (Z.rep (Z.nat n) t.z).length * _
          rw [hzl, flat_rep_length hlen]
        · show _ = Value.slice _ (Z.rep (Z.nat n) t.z).length _
          rw [hzl]
        · show (Z.rep (Z.nat n) t.z).length ≤ _
          rw [hzl]; exact hnn
        · have := maxLen_big; omega
        · rw [size_madeCells, e2]
        · show List.take ((Z.rep (Z.nat n) t.z).length * _) _ = _
          rw [hzl, e2, hcl, hml, take_flat_rep hlen hnn]
  · cases he

end
end Go.Sx
