/-
  The symbolic layer, part 16: appending and storing.
-/
import Derived.Test.YtlkegffejcndbaaSxF
set_option linter.all false
namespace Go.Sx

theorem run_append_src {P : Program} (w : World) (t ty e : TypeId) (i : TypeInfo) (z : Value) (size : Nat) (ht : P.underlying t = some (.slice e)) (hi : P.info? e = some i) (hz : i.zero = some z)
    (hsize : i.size = size) (hzs : z.cells.size = size)
    (v : Value) (n : Nat) (xs : List Value) (hown : w.ownsRow 0 e size v n xs)
    (ad : Option Addr) (m c : Nat) (news : List Value) (hl : news.length = m * size) (hsrc : m = 0 ∨ ∃ a, ad = some a ∧ ∀ j u, news[j]? = some u → w.cell? (a.add j) = some u) (h1 : ∀ u ∈ news, u.oneCell' = true)
    (h63 : n + m ≤ maxLen) (hbytes : (n + m) * i.bytes ≤ 140737488355328) :
    ∃ v' w', (Builtin.append_ #[t, t] ty #[v, .slice ad m c]).run P w = .ok v' w' ∧ w'.ownsRow 0 e size v' (n + m) (xs ++ news) ∧ Ext (fun b => v.ownBlock = some b) w w' ∧
      ∀ b, v'.ownBlock = some b → v.ownBlock = some b ∨ w.heap.size ≤ b := by
  subst hsize
  have hsmall : n + m ≤ 9223372036854775807 := by simp only [maxLen] at h63; omega
  have hlen : (xs ++ news).length = (n + m) * i.size := by rw [List.length_append, hown.1, hl, Nat.add_mul]
  have grown : ∀ (old : Nat), old < n + m →
      (w.drew.alloc (.cells (xs.toArray ++ news.toArray ++ Builtin.zeroCells z.cells (grownCap w (n + m) old e - (n + m))) e)).ownsRow 0 e i.size
        (.slice (some ⟨w.heap.size, 0, none⟩) (n + m) (grownCap w (n + m) old e)) (n + m) (xs ++ news) := by
    intro old ho
    have hge := grownCap_ge w (n + m) old e
    have hcm : grownCap w (n + m) old e ≤ maxLen := grownCap_le_maxLen w (n + m) old e h63
    refine ⟨hlen, .inr ⟨w.heap.size, _, _, rfl, Nat.zero_le _, heap_alloc_new w.drew _, hge, hcm, ?_, ?_⟩⟩
    · simp only [Array.size_append, List.size_toArray, size_zeroCells, hzs, hown.1, hl, ← Nat.add_mul]
      congr 1
      omega
    · simp only [Array.toList_append, List.append_assoc]
      rw [← List.append_assoc, ← hlen]
      exact List.take_left
  have hext : ∀ (M : Nat → Prop) (ob : Obj), Ext M w (w.drew.alloc ob) := fun M ob => ((ext_drew w).trans (ext_alloc w.drew ob)).mono fun _ _ h => h.elim
  by_cases hm : m = 0
  · subst hm
    have hn : news = [] := List.eq_nil_of_length_eq_zero (by simpa using hl)
    subst hn
    rcases hown.2 with ⟨rfl, rfl⟩ | ⟨g, cap, cur, rfl, hbg, hg, hnc, hcm, hcs, htake⟩
    · refine ⟨.slice none 0 0, w, ?_, by simpa using hown, .refl _ _, fun b hb => .inl hb⟩
      cases ad <;> simp [Builtin.append_, run_underlying ht, sizeOf, typeInfo, hi, Builtin.lenOf, Builtin.firstCells, loadCells, loadCellsFrom]
    · refine ⟨.slice (some ⟨g, 0, none⟩) n cap, w, ?_, by simpa using hown, .refl _ _, fun b hb => .inl hb⟩
      cases ad <;> simp [Builtin.append_, run_underlying ht, sizeOf, typeInfo, hi, Builtin.lenOf, Builtin.firstCells, loadCells, loadCellsFrom, hnc, storeCells]
  · obtain ⟨a, rfl, hnews⟩ := hsrc.resolve_left hm
    rcases hown.2 with ⟨rfl, rfl⟩ | ⟨g, cap, cur, rfl, hbg, hg, hnc, hcm, hcs, htake⟩
    · have hx : xs = [] := List.eq_nil_of_length_eq_zero (by simpa using hown.1)
      subst hx
      have hr := run_append_nil (P := P) w t ty e i z ht hi hz a m c news hl hnews (by omega) (by omega) (by have hb := hbytes; simp only [Nat.zero_add] at hb; omega)
      have hgr := grown 0 (by omega)
      simp only [Nat.zero_add, List.nil_append, Array.empty_append] at hgr ⊢
      exact ⟨_, _, hr, hgr, hext _ _, fun b hb => .inr (by cases hb; exact Nat.le_refl _)⟩
    · by_cases hroom : n + m ≤ cap
      · have hfit : n * i.size + news.length ≤ cur.size := by rw [hl, hcs, ← Nat.add_mul]; exact Nat.mul_le_mul_right _ hroom
        have hr := run_append_room (P := P) w t ty e i ht hi g n cap cur hg a m c news hl hnews h1 hroom hfit
        refine ⟨_, _, hr, ⟨hlen, .inr ⟨g, cap, _, rfl, hbg, setRow_heap w g cur _ e _ hg, hroom, hcm, ?_, ?_⟩⟩, ⟨by simp, fun k _ hk => setRow_other w g k _ (fun e => hk (by simp [Value.ownBlock, e])), rfl, rfl⟩, fun b hb => .inl hb⟩
        · simp only [List.size_toArray, List.length_append, List.length_take, List.length_drop, Array.length_toList]
          omega
        · rw [htake, ← hlen]
          exact List.take_left
      · have holds : ∀ j u, xs[j]? = some u → w.cell? ((⟨g, 0, none⟩ : Addr).add j) = some u := hown.cells (g := g) rfl
        have hr := run_append_grow (P := P) w t ty e i z ht hi hz ⟨g, 0, none⟩ n cap xs hown.1 holds a m c news hl hnews (by omega) (by omega) (growslice_fits (by omega) hbytes)
        exact ⟨_, _, hr, grown cap (by omega), hext _ _, fun b hb => .inr (by cases hb; exact Nat.le_refl _)⟩

section
variable {K : Ctx} {s : ASt} {a : Act} {w w' : World} {β : Nat → Loc} {cx : Cx} {g : List (Nat × Bool)} {o : Oper} {e : Eff} {d : Nat}

theorem cloDv2u_ty {a b r : Ty} {l : List Ty} {pre : Ds (a :: b :: l) → Prop} {val : Ds (a :: b :: l) → Ds [r]} {caps : List Dv} {v : Dv} (h : cloDv2 a b r l pre val caps = some v) (t : Ty) : v.t ≠ .sl t := by
  unfold cloDv2 at h
  split at h
  · cases h; simp
  · cases h
  · split at h
    · cases h; simp
    · cases h
theorem cond_opt {α : Type} {c : Bool} {x : Option α} {y : α} (h : cond c x none = some y) : x = some y := by cases c; cases h; exact h
theorem cloDv_ty {f : Nat} {c : List SV} {v : Dv} (h : cloDv cx s f c = some v) (t : Ty) : v.t ≠ .sl t := by
  unfold cloDv at h
  split at h
  · have h := cond_opt h; cases h; simp
  · have h := cond_opt h
    split at h
    · cases h; simp
    · exact cloDv2u_ty h t
  · cases h
/-- What is appended: its cells. -/
theorem src_rep (hcx : CxOk K.P cx) (h : RelB K s a w β) {x : AV} {u : Value} {t : Ty} {l : List t.D} (hx : AVRep K.P s β w (Mset K.Mg s β) x u) (hd : x.dv cx s = some ⟨.sl t, l⟩) :
    ∃ ad cap vss, u = .slice ad l.length cap ∧ l.length ≤ 140737488355328 ∧ All2 (Rep K.P t w (Mset K.Mg s β)) vss l ∧ (l.length = 0 ∨ ∃ b, ad = some b ∧ ∀ j v, vss.flatten[j]? = some v → w.cell? (b.add j) = some v) := by
  have direct : VRep K.P (.sl t) w (Mset K.Mg s β) u l → ∃ ad cap vss, u = .slice ad l.length cap ∧ l.length ≤ 140737488355328 ∧ All2 (Rep K.P t w (Mset K.Mg s β)) vss l ∧ (l.length = 0 ∨ ∃ b, ad = some b ∧ ∀ j v, vss.flatten[j]? = some v → w.cell? (b.add j) = some v) := by
    intro hv
    obtain ⟨ad, cap, rfl, hle, hm⟩ := sl_val hv
    rcases hm with rfl | ⟨b, off, vss, rfl, hst, hvs, hc⟩
    · exact ⟨ad, cap, [], rfl, by simp, trivial, .inl rfl⟩
    · exact ⟨_, cap, vss, rfl, by omega, hvs, .inr ⟨_, rfl, fun j v hj => by rw [Addr.add_lit]; exact hc.cell hj⟩⟩
  cases x with
  | un => cases hd
  | yl _ => cases hd
  | tup l => cases hd
  | clo f c =>
    simp only [AV.dv] at hd
    split at hd
    · unfold iconDv at hd
      split at hd
      · split at hd <;> cases hd
      · cases hd
    · exact absurd rfl (cloDv_ty hd t)
  | s x =>
    cases x with
    | d t' y => cases hd; exact direct hx
    | mp _ => cases hd
    | nl e t' =>
      cases hd
      have : u = .slice none 0 0 := hx
      subst this
      exact ⟨none, 0, [], rfl, by simp, trivial, .inl rfl⟩
    | ptr ob p =>
      simp only [AV.dv, SV.dv] at hd
      split at hd
      · simp only [Option.map_eq_some_iff] at hd
        obtain ⟨_, _, hd⟩ := hd
        cases hd
      · split at hd
        · simp only [Option.map_eq_some_iff] at hd
          obtain ⟨_, _, hd⟩ := hd
          cases hd
        · cases hd
      · cases hd
    | os ob =>
      simp only [AV.dv, SV.dv] at hd
      simp only [AVRep, SVRep] at hx
      split at hd
      · rename_i f e t' l' ho
        cases hd
        rw [ho] at hx
        obtain ⟨_, rfl⟩ := hx
        obtain ⟨hlen, hblk, vss, hvs, hown⟩ := h.ob _ _ ho
        rcases hown.2 with ⟨e1, e2⟩ | ⟨gg, cap, cur, e1, _⟩
        · refine ⟨none, 0, vss, by rw [e1, e2], hlen, hvs, .inl e2⟩
        · refine ⟨some ⟨gg, 0, none⟩, cap, vss, e1, hlen, hvs, .inr ⟨_, rfl, hown.cells (by rw [e1]; rfl)⟩⟩
      · cases hd

theorem roomy_nat {b c n : Nat} (hb : b ≤ 24 * c + 8) (h : Z.roomy (c : Int) (n : Int)) : n * b ≤ 140737488355328 ∧ n ≤ 17592186044416 := by
  have h1 := roomy_bytes (n := (n : Int)) (by omega) hb h
  have h2 := roomy_le (n := (n : Int)) (by omega) h
  refine ⟨?_, by omega⟩
  have h3 : ((n * b : Nat) : Int) ≤ 140737488355328 := by rw [Nat.mul_comm, Int.natCast_mul]; exact h1
  omega

theorem argAVs_two {E : TypeId → Operand → AV} {xs : List Operand} {ts : List TypeId} {x y : AV} (h : argAVs E xs ts = [x, y]) : ∃ p q, xs = [p, q] := by
  cases xs with
  | nil => cases h
  | cons p r =>
    cases r with
    | nil => cases ts <;> cases h
    | cons q r =>
      cases r with
      | nil => exact ⟨p, q, rfl⟩
      | cons z r =>
        cases ts with
        | nil => cases h
        | cons t ts => cases ts with
          | nil => cases h
          | cons t ts => cases ts <;> cases h

theorem did_append (hcx : CxOk K.P cx) (h : RelB K s a w β) (hg : Hold a g) {c : Call} (hop : o.op = .call c) (hb : c.callee = .builtin .append) {x y : AV} {T T' : TypeId}
    (hxs : argAVs (ev cx s g) c.args.toList c.argTypes.toList = [x, y]) (hts : c.argTypes.toList = [T, T']) (he : cond (Nat.beq T T') (appendEff cx s d T x y) none = some e) (hob : ∀ r, e.obl = some r → r) : Did K s a w o e := by
  have hr := args_rep (cx := cx) h hg c.args.toList c.argTypes.toList
  obtain ⟨p, q, hy⟩ := argAVs_two hxs
  rw [hxs, hy] at hr
  obtain ⟨hr1, hr2, _⟩ := hr
  have ea : c.args = #[p, q] := by apply Array.ext'; simpa using hy
  cases hTT : Nat.beq T T' with
  | false => rw [hTT] at he; cases he
  | true =>
  have := Nat.eq_of_beq_eq_true hTT
  subst this
  rw [hTT] at he
  simp only [cond_true] at he
  have et : c.argTypes = #[T, T] := by apply Array.ext'; simpa using hts
  unfold appendEff at he
  split at he
  · rename_i t ty' l₀ hT hdv
    split at he
    · rename_i l' hl'
      obtain ⟨e1, e2⟩ := castD_some hl'
      subst e1
      have e2 : l' = l₀ := e2
      subst e2
      obtain ⟨hu, hE, hn0⟩ := sl_facts (hcx.ty T _ hT)
      have hEf := hcx.ty _ _ hE
      obtain ⟨ie, _, i1, _, i2, i3, _⟩ := hEf.info
      obtain ⟨ie', z, j1, j2, j3⟩ := hEf.zsz
      rw [i1] at j1
      cases j1
      obtain ⟨ad, cap, vss, eq1, _, hvs, hsrc⟩ := src_rep hcx h hr2 hdv
      have hfl := flatten_length (all2u_length hvs)
      have hvl := hvs.length
      have hone : ∀ u ∈ vss.flatten, u.oneCell' = true := by
        intro u hu
        obtain ⟨cs, hc1, hc2⟩ := List.mem_flatten.1 hu
        obtain ⟨i, hi⟩ := List.getElem?_of_mem hc1
        have : ∀ {vss : List (List Value)} {l : List t.D}, All2 (Rep K.P t w (Mset K.Mg s β)) vss l → ∀ cs ∈ vss, ∀ u ∈ cs, u.oneCell' = true := by
          intro vss
          induction vss with
          | nil => intro l _ cs hcs; cases hcs
          | cons c vss ih =>
            intro l hl cs hcs
            cases l with
            | nil => exact hl.elim
            | cons y l =>
              rcases List.mem_cons.1 hcs with rfl | hcs
              · exact hl.1.oneCells
              · exact ih hl.2 cs hcs
        exact this hvs cs hc1 u hc2
      split at he
      · cases he
      · rename_i hobs
        split at he
        · rename_i e₀ t₁
          cases hb0 : Nat.beq e₀ (cx.el T) with
          | false => rw [hb0] at he; cases he
          | true =>
          rw [hb0] at he
          simp only [cond_true, Option.some.injEq] at he
          subst he
          have hroom := roomy_nat (n := (l' : List t.D).length) i3 (hob _ rfl)
          have ep : a.eval p = .slice none 0 0 := hr1
          obtain ⟨v', w', hrun, hown, hext, hblk⟩ := run_append_src (P := K.P) w T o.type (cx.el T) ie z t.n hu i1 j2 i2 j3 (.slice none 0 0) 0 [] (World.ownsRow_nil _ _ _ _) ad (l' : List t.D).length cap vss.flatten
            (by rw [hfl, hvl]) (by simpa using hsrc) hone (by have := maxLen_big; omega) (by simpa using hroom.1)
          refine did_new (L := ⟨v'.ownBlock, v'⟩) (w' := w') (v := v') h (fz := []) h hobs (hext.mono fun b _ hb => by cases hb) (fun b hb => (hblk b hb).resolve_left (by simp [Value.ownBlock])) rfl ?_ ?_ (.inr (.inl ⟨rfl, rfl, rfl⟩))
          · refine run_builtin hop hb ?_
            rw [ea, et]
            simp only [builtin, List.map_toArray, List.map_cons, List.map_nil, ep, eq1, Sem.run_bind, hrun, Result.andThen_ok, Sem.run_pure]
          · intro ht hc
            exact ⟨by show (l' : List t.D).length ≤ _; omega, rfl, vss, hvs.mono fun _ _ h => h.tr ht, by simpa using hown⟩
        · rename_i ob
          split at he
          · rename_i e₀ t₀ l₀ hobj
            split at he
            · rename_i l hl
              obtain ⟨e1, e2⟩ := castD_some hl
              cases e1
              have e2 : l = l₀ := e2
              subst e2
              cases hb0 : Nat.beq e₀ (cx.el T) with
              | false => rw [hb0] at he; cases he
              | true =>
              have := Nat.eq_of_beq_eq_true hb0
              subst this
              rw [hb0] at he
              simp only [cond_true, Option.some.injEq] at he
              subst he
              simp only [AVRep, SVRep, hobj] at hr1
              obtain ⟨_, ep⟩ := hr1
              have hroom := roomy_nat (n := ((l : List t.D) ++ (l' : List t.D)).length) i3 (hob _ rfl)
              obtain ⟨hlen, hblk0, vs0, hvs0, hown0⟩ := h.ob _ _ hobj
              have hl0 := hvs0.length
              obtain ⟨v', w', hrun, hown, hext, hblk⟩ := run_append_src (P := K.P) w T o.type (cx.el T) ie z t.n hu i1 j2 i2 j3 (β ob).hdr (l : List t.D).length vs0.flatten hown0 ad (l' : List t.D).length cap vss.flatten
                (by rw [hfl, hvl]) (by simpa using hsrc) hone (by have := maxLen_big; simp only [List.length_append] at hroom; omega) (by simpa using hroom.1)
              have hne : d ≠ ob := fun e => by rw [e, hobj] at hobs; cases hobs
              rw [← hblk0] at hext hblk
              have hcase : ∀ x ob₁, put (put s.obs d (some (some (.row false (cx.el T) t (Z.app (l : List t.D) (l' : List t.D)))))) ob (some none) x = some (some ob₁) → (x = d ∧ ob₁ = .row false (cx.el T) t (Z.app (l : List t.D) (l' : List t.D))) ∨ (x ≠ d ∧ x ≠ ob ∧ s.obs x = some (some ob₁)) := by
                intro x ob₁ hx
                by_cases hxo : x = ob
                · subst hxo; rw [put_same] at hx; cases hx
                · rw [put_other _ _ hxo] at hx
                  by_cases hxd : x = d
                  · subst hxd; rw [put_same] at hx; cases hx; exact .inl ⟨rfl, rfl⟩
                  · rw [put_other _ _ hxd] at hx; exact .inr ⟨hxd, hxo, hx⟩
              have hcc : Compat s β { s with obs := put (put s.obs d (some (some (.row false (cx.el T) t (Z.app (l : List t.D) (l' : List t.D)))))) ob (some none) } (Sx.put β d ⟨v'.ownBlock, v'⟩) := by
                refine ⟨fun x hx => ?_, fun x ob₁ hx => ?_⟩
                · show put (put s.obs d _) ob _ x = _
                  rw [put_other _ _ (fun e => by rw [e, hobj] at hx; cases hx), put_other _ _ (fun e => by rw [e, hobs] at hx; cases hx)]
                  exact hx
                · by_cases hxo : x = ob
                  · left
                    show put (put s.obs d _) ob _ x = _
                    rw [hxo, put_same]
                  · right
                    have hxd : x ≠ d := fun e => by rw [e, hobs] at hx; cases hx
                    refine ⟨ob₁, ?_, ?_, .refl _⟩
                    · show put (put s.obs d _) ob _ x = _
                      rw [put_other _ _ hxo, put_other _ _ hxd]; exact hx
                    · rw [put_other _ _ hxd]
              obtain ⟨g1, g2⟩ := h.step (w' := w') hcc
                (hext.mono fun b _ hb => ⟨ob, _, hobj, rfl, hb⟩)
                (by
                  rintro b hb ⟨x, ob₁, hx, hf, hbx⟩
                  rcases hcase x ob₁ hx with ⟨rfl, rfl⟩ | ⟨hxd, hxo, hx⟩
                  · rw [put_same] at hbx
                    rcases hblk b hbx with h1 | h1
                    · exact ⟨ob, _, hobj, rfl, h1⟩
                    · omega
                  · rw [put_other _ _ hxd] at hbx
                    exact ⟨x, ob₁, hx, hf, hbx⟩)
                (by
                  intro x ob₁ hx
                  rcases hcase x ob₁ hx with ⟨rfl, rfl⟩ | ⟨hxd, hxo, hx⟩
                  · right
                    intro ht
                    rw [put_same]
                    refine ⟨?_, rfl, vs0 ++ vss, (hvs0.mono fun _ _ h => h.tr ht).append (hvs.mono fun _ _ h => h.tr ht), ?_⟩
                    · show ((l : List t.D) ++ (l' : List t.D)).length ≤ _
                      omega
                    · rw [List.flatten_append]
                      show World.ownsRow w' 0 _ _ _ ((l : List t.D) ++ (l' : List t.D)).length _
                      rw [List.length_append]
                      exact hown
                  · left
                    refine ⟨hx, put_other _ _ hxd, fun b hb => hext.2 b (h.blk_lt hx hb) fun hb' => hxo (h.inj x ob _ _ b hx hobj hb hb')⟩)
                (by
                  intro x y ob₁ ob₂ b h1 h2 h3 h4
                  rcases hcase x ob₁ h1 with ⟨rfl, rfl⟩ | ⟨hxd, hxo, k1⟩ <;> rcases hcase y ob₂ h2 with ⟨rfl, rfl⟩ | ⟨hyd, hyo, k2⟩
                  · rfl
                  · rw [put_same] at h3; rw [put_other _ _ hyd] at h4
                    rcases hblk b h3 with g | g
                    · exact absurd (h.inj y ob _ _ b k2 hobj h4 g) hyo
                    · have := h.blk_lt k2 h4; omega
                  · rw [put_same] at h4; rw [put_other _ _ hxd] at h3
                    rcases hblk b h4 with g | g
                    · exact absurd (h.inj x ob _ _ b k1 hobj h3 g) hxo
                    · have := h.blk_lt k1 h3; omega
                  · rw [put_other _ _ hxd] at h3; rw [put_other _ _ hyd] at h4
                    exact h.inj x y _ _ b k1 k2 h3 h4)
                (by
                  intro x ob₁ b hx hb
                  rcases hcase x ob₁ hx with ⟨rfl, rfl⟩ | ⟨hxd, hxo, hx⟩
                  · rw [put_same] at hb
                    rcases hblk b hb with g | g
                    · exact .inr ⟨ob, _, hobj, fun _ => rfl, g⟩
                    · exact .inl g
                  · rw [put_other _ _ hxd] at hb; exact .inr ⟨x, ob₁, hx, id, hb⟩) rfl (by
                  show ghOf (put (put s.obs d _) ob _ K.gid) = _
                  by_cases e : K.gid = ob
                  · rw [e, put_same, hobj]; rfl
                  · rw [put_other _ _ e]
                    exact gh_put rfl (by rw [hobs]; rfl))
              refine ⟨v', w', _, ?_, g1, ?_⟩
              · refine run_builtin hop hb ?_
                rw [ea, et]
                simp only [builtin, List.map_toArray, List.map_cons, List.map_nil, ep, eq1, Sem.run_bind, hrun, Result.andThen_ok, Sem.run_pure]
              · simp only [AVRep, SVRep]
                show match put (put s.obs d _) ob _ d with | none => False | some none => True | some (some ob) => isRow ob = true ∧ v' = _
                rw [put_other _ _ hne, put_same]
                exact ⟨rfl, by rw [put_same]⟩
            · cases he
          · cases he
        · cases he
    · cases he
  · cases he
end
end Go.Sx
