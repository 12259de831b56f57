/-
  The symbolic layer, part 33: a row's arguments are data; they read behind the call as before.
-/
import Derived.Test.YtlkegffejcndbaaSxW
import Derived.ChangeArms
import Derived.WideShapes
import Derived.SizedLaws
import Derived.WideKeyArgs
import Derived.ChangeSame
import Derived.RowKit
set_option linter.all false
namespace Go.Sx
open Go.WideShapes Go.WideElems

/-- What a row's argument may be. -/
def Ty.plain : Ty → Bool
  | .i _ => true
  | .bo => true
  | .u => true
  | .p a b => a.plain && b.plain
  | .st a => a.plain
  | .sl t => t.plain
  | _ => false

section
variable {H : Type} {enc : TypeId × Value → H} {P : Program} {ty : Nat → Option Ty} {el : Nat → Nat} {w : World}

def Light (P : Program) (T : TypeId) (d : DataW H) : Prop := ∀ n ∈ DataW.weights P T d, n ≤ reachBytes
theorem weights_all {e : TypeId} {n : Nat} : ∀ {l : List (DataW H)} {d : DataW H}, d ∈ l → n ∈ DataW.weights P e d → n ∈ DataW.weightsAll P e l
  | a :: l, d, h, hn => by
    rw [DataW.weightsAll]
    rcases List.mem_cons.1 h with rfl | h
    · exact List.mem_append_left _ hn
    · exact List.mem_append_right _ (weights_all h hn)
theorem weights_each {n : Nat} : ∀ {ts : List TypeId} {l : List (DataW H)} {i : Nat} {t : TypeId} {d : DataW H}, ts[i]? = some t → l[i]? = some d → n ∈ DataW.weights P t d → n ∈ DataW.weightsEach P ts l
  | [], _, _, _, _, h, _, _ => by simp at h
  | _ :: _, [], _, _, _, _, h, _ => by simp at h
  | t₀ :: ts, a :: l, 0, t, d, h, h', hn => by
    simp only [List.getElem?_cons_zero, Option.some.injEq] at h h'
    subst h h'
    rw [DataW.weightsEach]
    exact List.mem_append_left _ hn
  | t₀ :: ts, a :: l, i + 1, t, d, h, h', hn => by
    rw [DataW.weightsEach]
    exact List.mem_append_right _ (weights_each (i := i) (by simpa using h) (by simpa using h') hn)

/-- Cells that are read as this type are data of it. -/
def RD (H : Type) (enc : TypeId × Value → H) (P : Program) (ty : Nat → Option Ty) (w : World) (t : Ty) : Prop :=
  ∀ T fuel cs (d : DataW H) ps, ty T = some t → DataW.trod enc P w 0 (fun _ => true) true fuel T cs = some (d, ps) → Light P T d → ∃ x : t.D, Rep P t w noM cs x
/-- The same of a struct's fields. -/
def SD (H : Type) (enc : TypeId × Value → H) (P : Program) (ty : Nat → Option Ty) (w : World) (sp : Ty) : Prop :=
  ∀ (fs : List Field) (off n : Nat) (cs : List Value) (xs : List (DataW H × List MemPlace)), fieldsAre ty fs (comps sp) off = true → cs.length = off + sp.n → xs.length = fs.length →
    (∀ (i : Nat) (f : Field), fs[i]? = some f → DataW.trod enc P w 0 (fun _ => true) true n f.type ((cs.drop f.offset).take (P.cellsOf f.type)) = xs[i]?) →
    (∀ (i : Nat) (f : Field) (x : DataW H × List MemPlace), fs[i]? = some f → xs[i]? = some x → Light P f.type x.1) → ∃ y : sp.D, Rep P sp w noM (cs.drop off) y

theorem TyF.cellsOf {T : TypeId} {t : Ty} (h : TyF P ty el T t) : P.cellsOf T = t.n := by
  obtain ⟨i, d, h1, _, h3, _⟩ := h.info
  simp [Program.cellsOf, h1, h3]

theorem sd_head (hty : ∀ T t, ty T = some t → TyF P ty el T t) {t : Ty} {ts : List Ty} (h : RD H enc P ty w t) {fs : List Field} {off n : Nat} {cs : List Value} {xs : List (DataW H × List MemPlace)} (hf : fieldsAre ty fs (t :: ts) off = true) (hx : xs.length = fs.length)
    (h1 : ∀ (i : Nat) (f : Field), fs[i]? = some f → DataW.trod enc P w 0 (fun _ => true) true n f.type ((cs.drop f.offset).take (P.cellsOf f.type)) = xs[i]?)
    (h2 : ∀ (i : Nat) (f : Field) (x : DataW H × List MemPlace), fs[i]? = some f → xs[i]? = some x → Light P f.type x.1) :
    ∃ f fs' x xs', fs = f :: fs' ∧ xs = x :: xs' ∧ fieldsAre ty fs' ts (off + t.n) = true ∧ ∃ y : t.D, Rep P t w noM ((cs.drop off).take t.n) y := by
  cases fs with
  | nil => cases hf
  | cons f fs =>
    cases xs with
    | nil => simp at hx
    | cons x xs =>
      simp only [fieldsAre, Bool.and_eq_true] at hf
      obtain ⟨f1, f2, _, _, f5⟩ := hf
      have hT := tyIs_eq f1
      have ho := Nat.eq_of_beq_eq_true f2
      have e := h1 0 f rfl
      rw [(hty _ _ hT).cellsOf, ho] at e
      obtain ⟨d, ps⟩ := x
      exact ⟨f, fs, _, xs, rfl, rfl, f5, h _ _ _ _ _ hT e (h2 0 f (d, ps) rfl rfl)⟩
theorem sd_one (hty : ∀ T t, ty T = some t → TyF P ty el T t) {t : Ty} (hc : comps t = [t]) (h : RD H enc P ty w t) : SD H enc P ty w t := by
  intro fs off n cs xs hf hl hx h1 h2
  rw [hc] at hf
  obtain ⟨_, _, _, _, _, _, _, y, hy⟩ := sd_head hty h hf hx h1 h2
  rw [List.take_of_length_le (by rw [List.length_drop]; omega)] at hy
  exact ⟨y, hy⟩

theorem all2u_get {α β : Type} {R : α → β → Prop} : ∀ {l : List α} {r : List β}, l.length = r.length → (∀ (i : Nat) a b, l[i]? = some a → r[i]? = some b → R a b) → All2 R l r
  | [], [], _, _ => trivial
  | a :: l, b :: r, h, hR => ⟨hR 0 a b rfl rfl, all2u_get (by simpa using h) fun i a b ha hb => hR (i + 1) a b (by simpa using ha) (by simpa using hb)⟩
  | [], _ :: _, h, _ => by simp at h
  | _ :: _, [], h, _ => by simp at h
theorem gather {α β : Type} (R : Nat → α → β → Prop) : ∀ n, (∀ i, i < n → ∃ a b, R i a b) → ∃ (l : List α) (r : List β), l.length = n ∧ r.length = n ∧ ∀ (i : Nat) a b, l[i]? = some a → r[i]? = some b → R i a b
  | 0, _ => ⟨[], [], rfl, rfl, fun i a b h => by simp at h⟩
  | n + 1, h => by
    obtain ⟨l, r, h1, h2, h3⟩ := gather R n fun i hi => h i (by omega)
    obtain ⟨a, b, hab⟩ := h n (by omega)
    refine ⟨l ++ [a], r ++ [b], by simp [h1], by simp [h2], fun i x y hx hy => ?_⟩
    by_cases hi : i < n
    · rw [List.getElem?_append_left (by omega)] at hx hy
      exact h3 i x y hx hy
    · have hi' : i = n := by
        have := (List.getElem?_eq_some_iff.1 hx).1
        simp only [List.length_append, List.length_cons, List.length_nil] at this
        omega
      subst hi'
      rw [List.getElem?_append_right (by omega)] at hx hy
      simp only [h1, Nat.sub_self, List.getElem?_cons_zero, Option.some.injEq] at hx
      simp only [h2, Nat.sub_self, List.getElem?_cons_zero, Option.some.injEq] at hy
      subst hx hy
      exact hab
theorem cells_flat {k : Nat} (A : Nat → Option Value) : ∀ (vss : List (List Value)) (off : Nat), (∀ (i : Nat) c, vss[i]? = some c → c.length = k ∧ ∀ (j : Nat) v, c[j]? = some v → A (off + i * k + j) = some v) → ∀ (j : Nat) v, vss.flatten[j]? = some v → A (off + j) = some v
  | [], _, _, j, v, h => by simp at h
  | c :: vss, off, hA, j, v, h => by
    rw [List.flatten_cons] at h
    obtain ⟨hc, hv⟩ := hA 0 c rfl
    by_cases hj : j < k
    · rw [List.getElem?_append_left (by omega)] at h
      simpa using hv j v h
    · rw [List.getElem?_append_right (by omega), hc] at h
      have := cells_flat A vss (off + k) (fun i c hi => by
        obtain ⟨g1, g2⟩ := hA (i + 1) c (by simpa using hi)
        refine ⟨g1, fun j v hj => ?_⟩
        have := g2 j v hj
        rw [Nat.add_mul, Nat.one_mul] at this
        rw [← this]; congr 1; omega) (j - k) v h
      rw [← this]; congr 1; omega
theorem cell_block {a : Addr} {j : Nat} {v : Value} (h : w.cell? (a.add j) = some v) : ∃ c e z, w.heap[a.block]? = some (.cells c e z) ∧ c[a.off + j]? = some v := by
  have hb : (a.add j).block = a.block := by unfold Addr.add; split <;> rfl
  have ho : (a.add j).off = a.off + j := by unfold Addr.add; split <;> simp_all
  unfold World.cell? at h
  rw [hb, ho] at h
  split at h
  · rename_i c e z hc
    split at h
    · cases h
    · exact ⟨c, e, z, hc, h⟩
  · cases h
theorem cell_spot {a : Addr} {v : Value} (h : w.cell? a = some v) : a.spot = none := by
  unfold World.cell? at h
  split at h
  · split at h
    · cases h
    · rename_i hn; simpa using hn
  · cases h
theorem add_add (a : Addr) (i j : Nat) : (a.add i).add j = a.add (i + j) := by
  unfold Addr.add
  by_cases hi : i = 0
  · subst hi; simp
  · by_cases hj : j = 0
    · subst hj; simp
    · simp [hi, hj, Nat.add_assoc]
theorem add_zero' (a : Addr) : a.add 0 = a := rfl

theorem read_all (hty : ∀ T t, ty T = some t → TyF P ty el T t) (hpos : ∀ T t, ty T = some t → t.n ≠ 0 → 0 < P.bytesOf T) : ∀ t : Ty, t.plain = true → RD H enc P ty w t ∧ SD H enc P ty w t
  | .i k, _ => by
    have h : RD H enc P ty w (.i k) := by
      intro T fuel cs d ps hT ht _
      obtain ⟨i, de, h1, h2, h3, h4, h5, h6, h7, _⟩ := (hty _ _ hT).info
      cases de <;> simp only [descIs] at h7 <;> first | cases h7 | skip
      rename_i k'
      have e := ikBeq_eq h7
      subst e
      obtain ⟨n, rfl, _, hw⟩ := DataW.trod_int h2 ht
      simp only [Lit.wf, Bool.and_eq_true, decide_eq_true_eq] at hw
      exact ⟨n, rfl, hw.1, hw.2⟩
    exact ⟨h, sd_one hty rfl h⟩
  | .bo, _ => by
    have h : RD H enc P ty w .bo := by
      intro T fuel cs d ps hT ht _
      obtain ⟨i, de, h1, h2, h3, h4, h5, h6, h7, _⟩ := (hty _ _ hT).info
      cases de <;> simp only [descIs] at h7 <;> first | cases h7 | skip
      obtain ⟨b, rfl, _⟩ := DataW.trod_bool h2 ht
      exact ⟨b, rfl⟩
    exact ⟨h, sd_one hty rfl h⟩
  | .u, _ => by
    refine ⟨?_, ?_⟩
    · intro T fuel cs d ps hT ht _
      obtain ⟨i, de, h1, h2, h3, h4, h5, h6, h7, _⟩ := (hty _ _ hT).info
      cases de <;> simp only [descIs] at h7 <;> cases h7
    · intro fs off n cs xs hf hl hx h1 h2
      refine ⟨(), ?_⟩
      show cs.drop off = []
      exact List.drop_eq_nil_of_le (by simp only [Ty.n] at hl; omega)
  | .p a b, hp => by
    simp only [Ty.plain, Bool.and_eq_true] at hp
    obtain ⟨ha, _⟩ := read_all hty hpos a hp.1
    obtain ⟨_, hb⟩ := read_all hty hpos b hp.2
    refine ⟨?_, ?_⟩
    · intro T fuel cs d ps hT ht _
      obtain ⟨i, de, h1, h2, h3, h4, h5, h6, h7, _⟩ := (hty _ _ hT).info
      cases de <;> simp only [descIs] at h7 <;> cases h7
    · intro fs off n cs xs hf hl hx h1 h2
      simp only [Ty.n] at hl
      obtain ⟨f, fs', x, xs', rfl, rfl, hf', y, hy⟩ := sd_head hty ha (show fieldsAre ty fs (a :: comps b) off = true from hf) hx h1 h2
      obtain ⟨z, hz⟩ := hb fs' (off + a.n) n cs xs' hf' (by omega) (by simpa using hx) (fun i g hg => by simpa using h1 (i + 1) g (by simpa using hg)) (fun i g x hg hx' => h2 (i + 1) g x (by simpa using hg) (by simpa using hx'))
      refine ⟨(y, z), (cs.drop off).take a.n, cs.drop (off + a.n), ?_, hy, hz⟩
      rw [← List.drop_drop, List.take_append_drop]
  | .st a, hp => by
    obtain ⟨_, hs⟩ := read_all hty hpos a hp
    have h : RD H enc P ty w (.st a) := by
      intro T fuel cs d ps hT ht hlt
      obtain ⟨i, de, h1, h2, h3, h4, h5, h6, h7, _⟩ := (hty _ _ hT).info
      cases de <;> simp only [descIs] at h7 <;> first | cases h7 | skip
      rename_i fs
      obtain ⟨xs, n, _, hx, hl, hxl, hf⟩ := DataW.trod_struct h2 ht
      simp only [Prod.mk.injEq] at hx
      obtain ⟨rfl, _⟩ := hx
      rw [(hty _ _ hT).cellsOf] at hl
      obtain ⟨y, hy⟩ := hs fs.toList 0 n cs xs h7 (by simpa [Ty.n] using hl) (by simpa using hxl) (fun i f hi => hf i f (by simpa using hi)) (fun i f x hi hx' m hm => hlt m (by
        rw [DataW.weights, h2]
        exact weights_each (i := i) (t := f.type) (d := x.1) (by rw [List.getElem?_map, hi]; rfl) (by rw [List.getElem?_map, hx']; rfl) hm))
      exact ⟨y, hy⟩
    exact ⟨h, sd_one hty rfl h⟩
  | .sl t, hp => by
    obtain ⟨ht', _⟩ := read_all hty hpos t hp
    have h : RD H enc P ty w (.sl t) := by
      intro T fuel cs d ps hT ht hlt
      obtain ⟨i, de, h1, h2, h3, h4, h5, h6, h7, _⟩ := (hty _ _ hT).info
      cases de <;> simp only [descIs] at h7 <;> first | cases h7 | skip
      rename_i e
      simp only [Bool.and_eq_true, Bool.not_eq_true'] at h7
      obtain ⟨g1, g2, g3⟩ := h7
      have he := tyIs_eq g1
      have hn : t.n ≠ 0 := fun e => by rw [e] at g3; cases g3
      rcases DataW.trod_slice h2 ht with ⟨rfl, _⟩ | ⟨a, len, cap, elems, rest, n, _, rfl, hx, _, hlc, hcm, hel, hgot, hrest, _⟩
      · exact ⟨[], none, 0, rfl, by simp, .inl rfl⟩
      · simp only [Prod.mk.injEq] at hx
        obtain ⟨rfl, _⟩ := hx
        have hce := (hty _ _ he).cellsOf
        rw [hce] at hgot
        have hlight : ∀ m, m ∈ DataW.weights P T (.slice (elems.map (·.1)) (rest.map (·.1))) → m ≤ reachBytes := hlt
        rw [DataW.weights, h2] at hlight
        have hbig := hlight _ List.mem_cons_self
        have hbp := hpos _ _ he hn
        simp only [List.length_map] at hbig
        have hlen47 : len ≤ 140737488355328 := by
          have : elems.length + rest.length ≤ (elems.length + rest.length) * P.bytesOf e := Nat.le_mul_of_pos_right _ hbp
          have h47 := reachBytes_lt
          simp only [Nat.reducePow] at h47
          omega
        have key : ∀ i, i < len → ∃ (c : List Value) (x : t.D), (c.length = t.n ∧ ∀ (j : Nat) v, c[j]? = some v → w.cell? (a.add (i * t.n + j)) = some v) ∧ Rep P t w noM c x := by
          intro i hi
          have hg := hgot i hi
          obtain ⟨el, hel'⟩ : ∃ x, elems[i]? = some x := ⟨elems[i]'(by omega), List.getElem?_eq_getElem (by omega)⟩
          rw [hel', Option.bind_eq_some_iff] at hg
          obtain ⟨c, hc, htr⟩ := hg
          obtain ⟨dx, px⟩ := el
          obtain ⟨x, hx⟩ := ht' _ _ _ _ _ he htr (fun m hm => hlight m (List.mem_cons_of_mem _ (List.mem_append_left _ (weights_all (d := dx) (List.mem_map.2 ⟨(dx, px), List.mem_of_getElem? hel', rfl⟩) hm))))
          unfold World.cells? at hc
          rw [if_pos (Nat.zero_le _)] at hc
          have hcl : c.length = t.n := by have := mapM_some_length hc; simpa using this
          refine ⟨c, x, ⟨hcl, fun j v hj => ?_⟩, hx⟩
          have hjl := (List.getElem?_eq_some_iff.1 hj).1
          have := mapM_some_get hc j j (by rw [List.getElem?_range (by omega)])
          rw [add_add] at this
          rw [this, hj]
        obtain ⟨vss, xs, k1, k2, k3⟩ := gather _ len key
        refine ⟨xs, some a, cap, by rw [k2], by rw [k2]; omega, ?_⟩
        by_cases hl0 : len = 0
        · left
          exact List.eq_nil_of_length_eq_zero (by omega)
        · right
          have hv : ∀ (i : Nat) c, vss[i]? = some c → c.length = t.n ∧ ∀ (j : Nat) v, c[j]? = some v → w.cell? (a.add (i * t.n + j)) = some v := by
            intro i c hc
            have hil := (List.getElem?_eq_some_iff.1 hc).1
            exact (k3 i c (xs[i]'(by omega)) hc (List.getElem?_eq_getElem (by omega))).1
          obtain ⟨c0, hc0⟩ : ∃ c, vss[0]? = some c := ⟨vss[0]'(by omega), List.getElem?_eq_getElem (by omega)⟩
          obtain ⟨q1, q2⟩ := hv 0 c0 hc0
          obtain ⟨v0, hv0⟩ : ∃ v, c0[0]? = some v := ⟨c0[0]'(by omega), List.getElem?_eq_getElem (by omega)⟩
          have hcell := q2 0 v0 hv0
          rw [Nat.zero_mul, Nat.zero_add] at hcell
          obtain ⟨A, eT, z, hA, _⟩ := cell_block hcell
          have hspot : a.spot = none := cell_spot (by rw [add_zero'] at hcell; exact hcell)
          refine ⟨a.block, a.off, vss, ?_, ⟨(Array.getElem?_eq_some_iff.1 hA).1, id⟩, ?_, A, eT, z, hA, ?_⟩
          · obtain ⟨b, o, s⟩ := a
            simp only at hspot
            rw [hspot]
          · exact all2u_get (by omega) fun i c x hc hx => (k3 i c x hc hx).2
          · refine cells_flat (k := t.n) (fun j => A[j]?) vss a.off fun i c hc => ⟨(hv i c hc).1, fun j v hj => ?_⟩
            obtain ⟨A', eT', z', hA', hj'⟩ := cell_block ((hv i c hc).2 j v hj)
            rw [hA] at hA'
            cases hA'
            rw [← hj', Nat.add_assoc]
    exact ⟨h, sd_one hty rfl h⟩
end

/-- Its numbers are such of their kinds. -/
def Ty.fits : (t : Ty) → t.D → Prop
  | .i k, n => k.min ≤ (n : Int) ∧ (n : Int) ≤ k.max
  | .p a b, x => a.fits x.1 ∧ b.fits x.2
  | .st a, x => a.fits x
  | .sl t, l => ∀ e ∈ (l : List t.D), t.fits e
  | _, _ => True
theorem all2u_mem {α β : Type} {R : α → β → Prop} : ∀ {l : List α} {r : List β}, All2 R l r → ∀ b ∈ r, ∃ a, R a b
  | [], [], _, b, hb => by cases hb
  | a :: l, c :: r, h, b, hb => by
    rcases List.mem_cons.1 hb with rfl | hb
    · exact ⟨a, h.1⟩
    · exact all2u_mem h.2 b hb
  | [], _ :: _, h, _, _ => h.elim
  | _ :: _, [], h, _, _ => h.elim
theorem Rep.fits {P : Program} {w : World} {M : Nat → Prop} : ∀ {t : Ty} {cs : List Value} {x : t.D}, Rep P t w M cs x → t.fits x
  | .i k, _, x, h => ⟨h.2.1, h.2.2⟩
  | .bo, _, _, _ => trivial
  | .u, _, _, _ => trivial
  | .p a b, _, x, h => by
    obtain ⟨c, d, _, h1, h2⟩ := h
    exact ⟨Rep.fits h1, Rep.fits h2⟩
  | .st a, cs, x, h => Rep.fits (t := a) h
  | .sl t, _, x, h => by
    obtain ⟨_, _, _, _, h | ⟨b, off, vss, _, _, h2, _⟩⟩ := h
    · intro e he
      rw [h] at he; cases he
    · intro e he
      obtain ⟨c, hc⟩ := all2u_mem h2 e he
      exact Rep.fits hc
  | .arr _ _, _, _, _ => trivial
  | .ref _, _, _, _ => trivial
  | .f1 _ _, _, _, _ => trivial
  | .f2 _ _ _, _, _, _ => trivial
  | .sq _ _, _, _, _ => trivial
def DsFits : (ts : List Ty) → Ds ts → Prop
  | [], _ => True
  | [a], x => a.fits x
  | a :: b :: r, x => a.fits x.1 ∧ DsFits (b :: r) x.2
theorem ARep.fits {P : Program} {w : World} {M : Nat → Prop} : ∀ {ts : List Ty} {vs : List Value} {x : Ds ts}, ARep P w M ts vs x → DsFits ts x
  | [], _, _, _ => trivial
  | [_], _, _, ⟨_, _, _, h, _⟩ => h.fits
  | _ :: _ :: _, _, _, ⟨_, _, _, ⟨_, h, _⟩, h3⟩ => ⟨h.fits, ARep.fits h3⟩
end Go.Sx
