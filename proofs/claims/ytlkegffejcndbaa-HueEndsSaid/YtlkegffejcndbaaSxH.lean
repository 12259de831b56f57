/-
  The symbolic layer, part 17: storing.
-/
import Derived.Test.YtlkegffejcndbaaSxG
set_option linter.all false
namespace Go.Sx

theorem splice_length {cs vs : List Value} {o : Nat} (h : o + vs.length ≤ cs.length) : (splice cs o vs).length = cs.length := by
  simp only [splice, List.length_append, List.length_take, List.length_drop]; omega
theorem take_splice {cs vs : List Value} {o m : Nat} (h : o + vs.length ≤ m) (hm : m ≤ cs.length) : (splice cs o vs).take m = splice (cs.take m) o vs := by
  simp only [splice]
  rw [List.take_append, List.take_append, List.take_take, List.take_take, List.length_take, List.drop_take]
  have e1 : min o cs.length = o := by omega
  have e2 : min m o = o := by omega
  have e3 : min o m = o := by omega
  rw [e1, e2, e3, List.take_of_length_le (l := vs) (by omega)]
  congr 2
  congr 1
  omega

section
variable {K : Ctx} {s : ASt} {a : Act} {w w' : World} {β : Nat → Loc} {cx : Cx} {g : List (Nat × Bool)} {o : Oper} {e : Eff} {d : Nat}

/-- An operation that yields nothing. -/
def DidS (K : Ctx) (s : ASt) (a : Act) (w : World) (o : Oper) (e : Eff) : Prop :=
  ∃ w' β', (execOp a.eval o).run K.P w = .ok .skip w' ∧ RelB K (after s e.wr) a w' β'

theorem run_store_splice {P : Program} {w : World} {T : TypeId} {b off : Nat} {cur : Array Value} {ty : TypeId} {v : Value} (hg : w.heap[b]? = some (.cells cur ty (0, 0))) (hsz : (sizeOf T).run P w = .ok v.cells.size w)
    (hle : off + v.cells.size ≤ cur.size) (hone : ∀ c ∈ v.cells.toList, c.oneCell' = true) :
    (Instr.storeAt T (.pointer (some ⟨b, off, none⟩)) v).run P w = .ok () (w.setRow b (splice cur.toList off v.cells.toList).toArray) := by
  have h := run_storeCells_at P b off ty v.cells.toList 0 cur w hg (by simpa using hle) hone
  simp only [Nat.add_zero, List.append_assoc] at h
  simp [Instr.storeAt, Instr.sureAddr, storeVar, hsz, h, splice]

theorem did_store (hcx : CxOk K.P cx) (h : RelB K s a w β) (hg : Hold a g) {T : TypeId} {x y : Operand} (hop : o.op = .store T x y) (hd : o.dst = none) (he : eff cx s g o = some e) : DidS K s a w o e := by
  have hx := ev_rep (cx := cx) h hg 0 x
  have hy := ev_rep (cx := cx) h hg T y
  simp only [eff, hop, hd] at he
  generalize ev cx s g 0 x = ax at he hx
  generalize ev cx s g T y = ay at he hy
  unfold storeEff at he
  split at he
  · rename_i ob q
    simp only [AVRep, SVRep] at hx
    split at he
    · rename_i v₀ hobj
      rw [hobj] at hx
      obtain ⟨hin, b, off, hb, hp, ex⟩ := hx
      split at he
      · cases hc : (cx.one T && ay.one s) with
        | false => rw [hc] at he; cases he
        | true =>
          rw [hc] at he
          simp only [cond_true, Option.some.injEq] at he
          subst he
          simp only [Bool.and_eq_true] at hc
          obtain ⟨hv1, hv2⟩ := one_val h hy hc.2
          obtain ⟨b', u, et, hb', hh, _⟩ := h.ob _ _ hobj
          rw [hb] at hb'; cases hb'
          simp only [obPos, Option.some.injEq] at hp
          subst hp
          have hrun := run_store_splice (P := K.P) (T := T) (off := 0) (v := a.eval y) hh (by rw [hv1]; exact (hcx.one T hc.1).size w) (by simp [hv1]) (by rw [hv1]; intro c hc; simp at hc; rw [hc]; exact hv2)
          obtain ⟨g1, _, _⟩ := h.write (ob' := .bv ay) (w' := w.setRow b (splice #[u].toList 0 (a.eval y).cells.toList).toArray) hobj rfl rfl ⟨fun p hp => (by cases p <;> first | trivial | cases hp), fun p => (by cases p <;> rfl), rfl, rfl⟩ rfl rfl hb (setRow_size _ _ _) (fun c hc => setRow_other w b c _ hc) (by
            intro ht hc
            refine ⟨b, a.eval y, et, hb, ?_, hy.next hc ht⟩
            rw [setRow_heap w b _ _ et (0, 0) hh]
            simp [splice, hv1])
          exact ⟨_, β, by simp [execOp, hop, ex, hrun], g1⟩
      · cases he
    · rename_i t y₀ hobj
      rw [hobj] at hx
      obtain ⟨hin, b, off, hb, hp, ex⟩ := hx
      split at he
      · rename_i w₀ ids fz hs
        obtain ⟨h1, h2, h3, h4⟩ := solid_rep hcx h hs (us := [a.eval y]) ⟨hy, trivial⟩
        split at he
        · rename_i z t' hz hT
          cases hc : (t'.beq w₀.t && !memN ob (fz.map (·.1))) with
          | false => rw [hc] at he; cases he
          | true =>
            rw [hc] at he
            simp only [cond_true, Option.some.injEq] at he
            subst he
            simp only [Bool.and_eq_true, Bool.not_eq_true'] at hc
            obtain ⟨hc1, hc2⟩ := hc
            have hc1 := Ty.beq_eq hc1
            subst hc1
            have hobj1 : (after s fz).obs ob = some (some (.bx false t y₀)) := by rw [after_other hc2]; exact hobj
            obtain ⟨b', vs, et, hb', hh, hr⟩ := h1.ob _ _ hobj1
            rw [hb] at hb'; cases hb'
            have hv := h4.1.cells.1
            have hvl := hv.length
            obtain ⟨off', ho', hle, hr'⟩ := setP_rep hr hz hin hv
            simp only [obPos, ho', Option.map_some, Option.some.injEq] at hp
            subst hp
            have hsz : (sizeOf T).run K.P w = .ok (a.eval y).cells.size w := by
              have := (hcx.ty T _ hT).size w
              simp only [Array.length_toList] at hvl
              rw [hvl]; exact this
            have hrun := run_store_splice (P := K.P) (T := T) (off := off') (v := a.eval y) hh hsz (by simp only [Array.length_toList] at hvl; rw [hvl]; simpa using hle) hv.oneCells
            obtain ⟨g1, _, _⟩ := h1.write (ob' := .bx false t z) (w' := w.setRow b (splice vs.toArray.toList off' (a.eval y).cells.toList).toArray) hobj1 rfl rfl ⟨fun p hp => hp, fun p => rfl, rfl, rfl⟩ rfl rfl hb (setRow_size _ _ _) (fun c hc => setRow_other w b c _ hc) (by
              intro ht hc
              exact ⟨b, _, et, hb, setRow_heap w b _ _ et (0, 0) hh, hr'.tr ht⟩)
            exact ⟨_, β, by simp [execOp, hop, ex, hrun], g1⟩
        · cases he
      · cases he
    · rename_i et t l hobj
      rw [hobj] at hx
      split at he
      · rename_i i q'
        obtain ⟨⟨hi, hin⟩, b, off, hb, hp, ex⟩ := hx
        split at he
        · rename_i w₀ ids fz hs
          obtain ⟨h1, h2, h3, h4⟩ := solid_rep hcx h hs (us := [a.eval y]) ⟨hy, trivial⟩
          split at he
          · rename_i z t' hz hT
            cases hc : (t'.beq w₀.t && !memN ob (fz.map (·.1))) with
            | false => rw [hc] at he; cases he
            | true =>
              rw [hc] at he
              simp only [cond_true, Option.some.injEq] at he
              subst he
              simp only [Bool.and_eq_true, Bool.not_eq_true'] at hc
              obtain ⟨hc1, hc2⟩ := hc
              have hc1 := Ty.beq_eq hc1
              subst hc1
              have hobj1 : (after s fz).obs ob = some (some (.row false et t l)) := by rw [after_other hc2]; exact hobj
              obtain ⟨hlen, hblk, vss, hvs, hown⟩ := h1.ob _ _ hobj1
              obtain ⟨c, hcc, hrc⟩ := hvs.get (getD_some (l := (l : List t.D)) (i := i) (d := t.z) hi)
              have hk := all2u_length hvs
              have hv := h4.1.cells.1
              have hvl := hv.length
              obtain ⟨off', ho', hle, hr'⟩ := setP_rep hrc hz hin hv
              simp only [obPos, ho', Option.map_some, Option.some.injEq] at hp
              subst hp
              obtain ⟨e1, e2⟩ := flatten_sub (k := t.n) hk hcc
              have hcl := hrc.length
              have hsp := flatten_splice hk hcc (vs := (a.eval y).cells.toList) (o := off') (by rw [hvl, ← hcl]; exact hle) rfl
              have hfl := flatten_length hk
              have hvl0 := hvs.length
              rcases hown.2 with ⟨g1, g2⟩ | ⟨gg, cap, cur, g1, _, g3, g4, g4', g5, g6⟩
              · omega
              have hbb : gg = b := by rw [g1] at hblk; rw [hb] at hblk; simpa [Value.ownBlock] using hblk.symm
              subst hbb
              have hbig : (l : List t.D).length * t.n ≤ cur.size := by rw [g5]; exact Nat.mul_le_mul_right _ g4
              have hin2 : i * t.n + off' + (a.eval y).cells.toList.length ≤ (l : List t.D).length * t.n := by
                rw [hfl, hvl0] at e2
                rw [hvl]
                omega
              have hsz : (sizeOf T).run K.P w = .ok (a.eval y).cells.size w := by
                have := (hcx.ty T _ hT).size w
                simp only [Array.length_toList] at hvl
                rw [hvl]; exact this
              have hrun := run_store_splice (P := K.P) (T := T) (off := i * t.n + off') (v := a.eval y) g3 hsz (by simp only [Array.length_toList] at hin2; omega) hv.oneCells
              have hsl : (Z.set (l : List t.D) i z).length = (l : List t.D).length := by simp [Z.set]
              obtain ⟨k1, _, _⟩ := h1.write (ob' := .row false et t (Z.set l i z)) (w' := w.setRow gg (splice cur.toList (i * t.n + off') (a.eval y).cells.toList).toArray) hobj1 rfl rfl ⟨fun p hp => (by
                  cases p with
                  | nil => cases hp
                  | cons st p => cases st <;> first | exact ⟨by rw [hsl]; exact hp.1, hp.2⟩ | cases hp), fun p => (by
                  cases p with
                  | nil => rfl
                  | cons st p => cases st <;> rfl), rfl, rfl⟩ rfl rfl hb (setRow_size _ _ _) (fun c hc => setRow_other w gg c _ hc) (by
                intro ht hc
                refine ⟨by rw [hsl]; exact hlen, hblk, _, (hvs.set i hr').mono fun _ _ h => h.tr ht, ?_⟩
                rw [hsl, ← hsp]
                refine ⟨?_, .inr ⟨gg, cap, _, g1, Nat.zero_le _, setRow_heap w gg _ _ _ (0, 0) g3, g4, g4', ?_, ?_⟩⟩
                · rw [splice_length (by rw [hfl, hvl0]; exact hin2), hfl, hvl0]
                · rw [List.size_toArray, splice_length (by have := Array.length_toList (xs := cur); omega), Array.length_toList, g5]
                · show List.take _ (splice cur.toList _ _) = _
                  rw [take_splice hin2 (by rw [Array.length_toList]; exact hbig), g6])
              exact ⟨_, β, by simp [execOp, hop, ex, hrun], k1⟩
          · cases he
        · cases he
      · cases he
    · cases he
  · cases he
end
end Go.Sx
