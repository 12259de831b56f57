/-
  The symbolic layer, part 15: slices of slices, lengths, appending, storing.
-/
import Derived.Test.YtlkegffejcndbaaSxE
import Derived.Laws.Slices
set_option linter.all false
namespace Go.Sx

theorem flatten_take {k : Nat} : ∀ {vss : List (List Value)} (n : Nat), (∀ c ∈ vss, c.length = k) → (vss.take n).flatten = vss.flatten.take (n * k)
  | [], n, _ => by simp
  | c :: l, 0, _ => by simp
  | c :: l, n + 1, h => by
    have h1 := flatten_take (k := k) (vss := l) n fun c hc => h c (List.mem_cons_of_mem _ hc)
    have h2 := h c List.mem_cons_self
    rw [List.take_succ_cons, List.flatten_cons, List.flatten_cons, h1, Nat.add_mul, Nat.one_mul, Nat.add_comm (n * k), ← h2, List.take_length_add_append]
theorem flatten_drop {k : Nat} : ∀ {vss : List (List Value)} (n : Nat), (∀ c ∈ vss, c.length = k) → (vss.drop n).flatten = vss.flatten.drop (n * k)
  | [], n, _ => by simp
  | c :: l, 0, _ => by simp
  | c :: l, n + 1, h => by
    have h1 := flatten_drop (k := k) (vss := l) n fun c hc => h c (List.mem_cons_of_mem _ hc)
    have h2 := h c List.mem_cons_self
    rw [List.drop_succ_cons, List.flatten_cons, h1, Nat.add_mul, Nat.one_mul, Nat.add_comm (n * k), ← h2, List.drop_length_add_append]

/-- Part of a slice. -/
theorem sliced_rep {P : Program} {t : Ty} {w : World} {M : Nat → Prop} {ad : Option Addr} {cap : Nat} {l : List t.D} (hcap : l.length ≤ min cap 140737488355328)
    (h : l = [] ∨ ∃ b off vss, ad = some ⟨b, off, none⟩ ∧ St w M b ∧ All2 (Rep P t w M) vss l ∧ Cells w b off vss.flatten) {i j : Nat} (hij : i ≤ j) (hj : j ≤ l.length) :
    VRep P (.sl t) w M (.slice (if cap = i then ad else ad.map (·.add (i * t.n))) (j - i) (cap - i)) ((l.take j).drop i) := by
  have hlen : ((l.take j).drop i).length = j - i := by simp; omega
  refine ⟨[.slice (if cap = i then ad else ad.map (·.add (i * t.n))) (j - i) (cap - i)], ⟨(if cap = i then ad else ad.map (·.add (i * t.n))), cap - i, by rw [hlen], by omega, ?_⟩, rfl⟩
  by_cases he : j = i
  · left
    apply List.eq_nil_of_length_eq_zero
    omega
  · right
    rcases h with h | ⟨b, off, vss, rfl, hst, hvs, hc⟩
    · rw [h] at hj; simp at hj; omega
    · have hne : ¬ cap = i := by omega
      refine ⟨b, off + i * t.n, (vss.take j).drop i, by simp [hne, Addr.add_lit], hst, (hvs.take j).drop i, ?_⟩
      have hk := all2u_length hvs
      have hk' : ∀ c ∈ vss.take j, c.length = t.n := fun c hc => hk c (List.mem_of_mem_take hc)
      rw [flatten_drop i hk', flatten_take j hk]
      obtain ⟨c, e, z, h1, h2⟩ := hc
      refine ⟨c, e, z, h1, fun q v hq => ?_⟩
      rw [List.getElem?_drop, List.getElem?_take] at hq
      split at hq
      · rw [Nat.add_assoc]; exact h2 _ v hq
      · cases hq

section
variable {K : Ctx} {s : ASt} {a : Act} {w w' : World} {β : Nat → Loc} {cx : Cx} {g : List (Nat × Bool)} {o : Oper} {e : Eff} {d : Nat}

theorem optInt_rep (h : RelB K s a w β) (hg : Hold a g) {x : Option Operand} {r : Option Int} (hx : optInt cx s g x = some r) : x.map a.eval = r.map (Value.int .i64) := by
  unfold optInt at hx
  split at hx
  · cases hx; rfl
  · rename_i y
    split at hx
    · rename_i n hn
      cases hx
      have := ev_rep (cx := cx) h hg 0 y
      rw [asInt_eq hn] at this
      obtain ⟨e1, _, _⟩ := int_val this
      simp [e1]
    · cases hx

theorem did_slice (hcx : CxOk K.P cx) (h : RelB K s a w β) (hg : Hold a g) {T : TypeId} {x : Operand} {lo hi : Option Operand} (hop : o.op = .slice T x lo hi none) (hd : o.dst = some d) (he : eff cx s g o = some e) (hob : ∀ r, e.obl = some r → r) : Did K s a w o e := by
  have hx := ev_rep (cx := cx) h hg T x
  simp only [eff, hop, hd] at he
  split at he
  · rename_i p q hp hq
    have hp := optInt_rep h hg hp
    have hq := optInt_rep h hg hq
    unfold sliceEff at he
    split at he
    · rename_i t w₀ ids fz hT hs
      obtain ⟨hu, hE, hk0⟩ := sl_facts (hcx.ty T _ hT)
      have hsz := (hcx.ty _ _ hE).size
      obtain ⟨h1, h2, h3, h4⟩ := solid_rep hcx h hs (us := [a.eval x]) ⟨hx, trivial⟩
      split at he
      · rename_i l hl
        obtain ⟨ad, cap, ex, hcap, hm⟩ := sl_val (castD_vrep hl h4.1)
        have fin : ∀ (i j : Nat) (r : List t.D), i ≤ j → j ≤ (l : List t.D).length → r = ((l : List t.D).take j).drop i → e.wr = fz → e.av = .s (.d (.sl t) r) →
            (Instr.sliceAt T (a.eval x) (lo.map a.eval) (hi.map a.eval) none).run K.P w = .ok (.slice (if cap = i then ad else ad.map (·.add (i * t.n))) (j - i) (cap - i)) w → Did K s a w o e := by
          intro i j r hij hj hr hwr hav hrun
          refine ⟨.slice (if cap = i then ad else ad.map (·.add (i * t.n))) (j - i) (cap - i), w, β, ?_, by rw [hwr]; exact h1, ?_⟩
          · simp [execOp, hop, hrun]
          · rw [hav, hwr, hr]
            exact sliced_rep hcap hm hij hj
        simp only at he
        rw [hp, hq, ex] at fin
        cases p with
        | none =>
          cases q with
          | none =>
            simp only [Option.some.injEq] at he
            refine fin 0 (l : List t.D).length l (Nat.zero_le _) (Nat.le_refl _) (by simp) (by rw [← he]) (by rw [← he]) ?_
            simp [Instr.sliceAt, Instr.slice, run_underlying hu, Instr.sliceBounds, hsz]
          | some j =>
            simp only [Option.some.injEq] at he
            obtain ⟨j0, j1⟩ := hob _ (by rw [← he])
            have j0 : (0 : Int) ≤ j := j0
            have j1 : j ≤ ((l : List t.D).length : Int) := j1
            refine fin 0 j.toNat ((l : List t.D).take j.toNat) (Nat.zero_le _) (by omega) (by simp) (by rw [← he]) (by rw [← he]) ?_
            have : j ≤ (cap : Int) := by omega
            simp [Instr.sliceAt, Instr.slice, run_underlying hu, Instr.sliceBounds, hsz, run_sliceBound, j0, this]
        | some i =>
          cases q with
          | none =>
            simp only [Option.some.injEq] at he
            obtain ⟨i0, i1⟩ := hob _ (by rw [← he])
            have i0 : (0 : Int) ≤ i := i0
            have i1 : i ≤ ((l : List t.D).length : Int) := i1
            refine fin i.toNat (l : List t.D).length ((l : List t.D).drop i.toNat) (by omega) (Nat.le_refl _) (by simp) (by rw [← he]) (by rw [← he]) ?_
            simp [Instr.sliceAt, Instr.slice, run_underlying hu, Instr.sliceBounds, hsz, run_sliceBound, i0, i1]
          | some j =>
            simp only [Option.some.injEq] at he
            obtain ⟨i0, i1, j1⟩ := hob _ (by rw [← he])
            have i0 : (0 : Int) ≤ i := i0
            have i1 : i ≤ j := i1
            have j1 : j ≤ ((l : List t.D).length : Int) := j1
            refine fin i.toNat j.toNat (((l : List t.D).take j.toNat).drop i.toNat) (by omega) (by omega) rfl (by rw [← he]) (by rw [← he]) ?_
            have h5 : j ≤ (cap : Int) := by omega
            have h6 : (0 : Int) ≤ j := by omega
            have h8 := fun w => run_sliceBound (P := K.P) (w := w) .i64 i j.toNat .sliceB i0 (by omega)
            simp [Instr.sliceAt, Instr.slice, run_underlying hu, Instr.sliceBounds, hsz, run_sliceBound, h5, h6, h8]
      · cases he
    · cases he
  · cases he

/-! ### Builtins -/
theorem open_live {x : AV} {q : Nat} (h : q ∈ x.open? s) : ∃ ob, s.obs q = some (some ob) := by
  have key : ∀ v : SV, q ∈ v.open? s → ∃ ob, s.obs q = some (some ob) := by
    intro v hv
    cases v with
    | d t y => cases hv
    | nl e t => cases hv
    | mp _ => cases hv
    | ptr o p =>
      simp only [SV.open?] at hv
      split at hv <;> simp at hv
      · subst hv; exact ⟨_, ‹_›⟩
      · subst hv; exact ⟨_, ‹_›⟩
    | os o =>
      simp only [SV.open?] at hv
      split at hv <;> simp at hv
      subst hv; exact ⟨_, ‹_›⟩
  cases x with
  | un => cases h
  | yl _ => cases h
  | tup l => cases h
  | s v => exact key v h
  | clo f c =>
    obtain ⟨v, _, hv⟩ := List.mem_flatMap.1 h
    exact key v hv
theorem under_mg (h : RelB K s a w β) {l : List Nat} (hl : ∀ q ∈ l, ∃ ob, s.obs q = some (some ob)) : Under s β K.Mg l K.Mg :=
  ⟨fun b hb => .inl hb, fun q hq b hb hm => by
    obtain ⟨ob, ho⟩ := hl q hq
    exact h.dis q ob b ho hb hm⟩

theorem args_rep (h : RelB K s a w β) (hg : Hold a g) : ∀ (xs : List Operand) (ts : List TypeId), All2 (AVRep K.P s β w (Mset K.Mg s β)) (argAVs (ev cx s g) xs ts) (xs.map a.eval)
  | [], _ => trivial
  | x :: r, [] => ⟨ev_rep h hg 0 x, args_rep h hg r []⟩
  | x :: r, t :: ts => ⟨ev_rep h hg t x, args_rep h hg r ts⟩

theorem run_builtin {c : Call} {b : Builtin} (hop : o.op = .call c) (hb : c.callee = .builtin b) {v : Value} {w' : World}
    (h : (builtin b c.argTypes o.type (c.args.map fun | .const _ => true | _ => false) (c.args.map a.eval)).run K.P w = .ok (.value v) w') : (execOp a.eval o).run K.P w = .ok (.value v) w' := by
  unfold execOp
  simp only [hop, resolve, hb, invoke, Sem.run_bind, Sem.run_pure, Result.andThen_ok]
  exact h

theorem ints_rep {M : Nat → Prop} : ∀ {l : List AV} {us : List Value} {ns : List Int}, All2 (AVRep K.P s β w M) l us → All2 (fun (x : AV) (n : Int) => (match asInt x with | some (.i64, n) => some n | _ => none) = some n) l ns →
    us = ns.map (Value.int .i64) ∧ ∀ n ∈ ns, IntKind.i64.min ≤ n ∧ n ≤ IntKind.i64.max
  | [], [], [], _, _ => ⟨rfl, fun n hn => by cases hn⟩
  | x :: l, u :: us, n :: ns, h, h' => by
    obtain ⟨e1, e2⟩ := ints_rep h.2 h'.2
    have h1 := h.1
    have h2 := h'.1
    cases hx : asInt x with
    | none => simp [hx] at h2
    | some p =>
      obtain ⟨k, m⟩ := p
      rw [asInt_eq hx] at h1
      obtain ⟨e3, e4, e5⟩ := int_val h1
      simp only [hx] at h2
      split at h2
      · rename_i heq
        cases heq
        cases h2
        exact ⟨by rw [e1, e3]; rfl, fun q hq => by
          rcases List.mem_cons.1 hq with rfl | hq
          · exact ⟨e4, e5⟩
          · exact e2 q hq⟩
      · cases h2
  | [], _ :: _, _, h, _ => h.elim
  | _ :: _, [], _, h, _ => h.elim
  | [], [], _ :: _, _, h => h.elim
  | _ :: _, _ :: _, [], _, h => h.elim

theorem run_maxs : ∀ (ns : List Int) (n : Int) (w : World), ((ns.map (Value.int .i64)).foldlM Builtin.max2 (Value.int .i64 n)).run K.P w = .ok (Value.int .i64 (ns.foldl Z.zmax n)) w
  | [], n, w => by simp
  | m :: ns, n, w => by
    have e : (if m > n then m else n) = Z.zmax n m := by simp only [Z.zmax]; omega
    simp only [List.map_cons, List.foldlM_cons, Builtin.max2, Sem.run_bind, Sem.run_pure, Result.andThen_ok, List.foldl_cons, e]
    exact run_maxs ns _ w
theorem run_mins : ∀ (ns : List Int) (n : Int) (w : World), ((ns.map (Value.int .i64)).foldlM Builtin.min2 (Value.int .i64 n)).run K.P w = .ok (Value.int .i64 (ns.foldl Z.zmin n)) w
  | [], n, w => by simp
  | m :: ns, n, w => by
    have e : (if m < n then m else n) = Z.zmin n m := by simp only [Z.zmin]; omega
    simp only [List.map_cons, List.foldlM_cons, Builtin.min2, Sem.run_bind, Sem.run_pure, Result.andThen_ok, List.foldl_cons, e]
    exact run_mins ns _ w
theorem fold_max {lo hi : Int} : ∀ (ns : List Int) (n : Int), lo ≤ n ∧ n ≤ hi → (∀ m ∈ ns, lo ≤ m ∧ m ≤ hi) → lo ≤ ns.foldl Z.zmax n ∧ ns.foldl Z.zmax n ≤ hi
  | [], n, h, _ => h
  | m :: ns, n, h, h' => by
    have := h' m List.mem_cons_self
    exact fold_max ns _ (by simp only [Z.zmax]; omega) fun q hq => h' q (List.mem_cons_of_mem _ hq)
theorem fold_min {lo hi : Int} : ∀ (ns : List Int) (n : Int), lo ≤ n ∧ n ≤ hi → (∀ m ∈ ns, lo ≤ m ∧ m ≤ hi) → lo ≤ ns.foldl Z.zmin n ∧ ns.foldl Z.zmin n ≤ hi
  | [], n, h, _ => h
  | m :: ns, n, h, h' => by
    have := h' m List.mem_cons_self
    exact fold_min ns _ (by simp only [Z.zmin]; omega) fun q hq => h' q (List.mem_cons_of_mem _ hq)

theorem did_maxmin (h : RelB K s a w β) (hg : Hold a g) {c : Call} {b : Builtin} (hop : o.op = .call c) (hb : c.callee = .builtin b) {l : List Int} {n : Int}
    (hl : optAll (fun v => match asInt v with | some (.i64, n) => some n | _ => none) (argAVs (ev cx s g) c.args.toList c.argTypes.toList) = some l)
    (hbn : (b = .max ∧ maxInt l = some n) ∨ (b = .min ∧ minInt l = some n)) (he : e = ⟨none, .s (.d (.i .i64) n), [], []⟩) : Did K s a w o e := by
  subst he
  obtain ⟨e1, e2⟩ := ints_rep (args_rep h hg c.args.toList c.argTypes.toList) (optAll_all2 hl)
  have e3 : (c.args.map a.eval).toList = l.map (Value.int .i64) := by simpa using e1
  cases l with
  | nil => rcases hbn with ⟨_, h⟩ | ⟨_, h⟩ <;> cases h
  | cons m l =>
    rcases hbn with ⟨rfl, hn⟩ | ⟨rfl, hn⟩
    · simp only [maxInt, Option.some.injEq] at hn
      subst hn
      obtain ⟨b1, b2⟩ := fold_max l m (e2 m List.mem_cons_self) fun q hq => e2 q (List.mem_cons_of_mem _ hq)
      refine did_pure (v := .int .i64 (l.foldl Z.zmax m)) h rfl (run_builtin hop hb ?_) (mk_int b1 b2)
      simp only [builtin, Builtin.max_, e3, List.map_cons, Sem.run_bind, run_maxs, Result.andThen_ok, Sem.run_pure]
    · simp only [minInt, Option.some.injEq] at hn
      subst hn
      obtain ⟨b1, b2⟩ := fold_min l m (e2 m List.mem_cons_self) fun q hq => e2 q (List.mem_cons_of_mem _ hq)
      refine did_pure (v := .int .i64 (l.foldl Z.zmin m)) h rfl (run_builtin hop hb ?_) (mk_int b1 b2)
      simp only [builtin, Builtin.min_, e3, List.map_cons, Sem.run_bind, run_mins, Result.andThen_ok, Sem.run_pure]

theorem argAVs_one {E : TypeId → Operand → AV} {xs : List Operand} {ts : List TypeId} {x : AV} (h : argAVs E xs ts = [x]) : ∃ y, xs = [y] := by
  cases xs with
  | nil => cases h
  | cons y r =>
    cases r with
    | nil => exact ⟨y, rfl⟩
    | cons z r => cases ts with
      | nil => cases h
      | cons t ts => cases ts <;> cases h

theorem did_len (hcx : CxOk K.P cx) (h : RelB K s a w β) (hg : Hold a g) {c : Call} (hop : o.op = .call c) (hb : c.callee = .builtin .len) {x : AV} {t t' : Ty} {l : List t.D} {T : TypeId} {ids : List Nat}
    (hx : argAVs (ev cx s g) c.args.toList c.argTypes.toList = [x]) (hts : c.argTypes.toList = [T]) (hv : x.dv cx s = some ⟨.sl t, l⟩) (hT : cx.ty T = some (.sl t')) (he : e = ⟨none, .s (.d (.i .i64) (Z.len l)), ids, []⟩) : Did K s a w o e := by
  subst he
  have hr := args_rep (cx := cx) h hg c.args.toList c.argTypes.toList
  obtain ⟨y, hy⟩ := argAVs_one hx
  rw [hx, hy] at hr
  have hd := AV.dv_rep hcx h hr.1 hv (under_mg h fun q hq => open_live hq)
  obtain ⟨ad, cap, ex, hle, _⟩ := sl_val hd
  obtain ⟨hu, _⟩ := sl_facts (hcx.ty T _ hT)
  have ea : c.args = #[y] := by apply Array.ext'; simpa using hy
  have et : c.argTypes = #[T] := by apply Array.ext'; simpa using hts
  have b1 : (-9223372036854775808 : Int) ≤ (l.length : Int) := by omega
  have b2 : (l.length : Int) ≤ 9223372036854775807 := by
    have hle : l.length ≤ min cap 140737488355328 := hle
    omega
  refine did_pure (v := .int .i64 (l.length : Int)) h rfl (run_builtin hop hb ?_) (mk_int b1 b2)
  rw [ea, et]
  simp [builtin, Builtin.len_, run_underlying hu, ex, goInt]
end
end Go.Sx
