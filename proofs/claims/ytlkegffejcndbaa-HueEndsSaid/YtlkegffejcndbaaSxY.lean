/-
  The symbolic layer, part 34: the row of a law that returns true and changes nothing.
-/
import Derived.Test.YtlkegffejcndbaaSxX
import Derived.Handed
set_option linter.all false
namespace Go.Sx
open Go.WideShapes Go.WideElems

/-- Types of parameters, and the data that they hold. -/
def tysOk (T : Tabs) : List TypeId → List Ty → Bool
  | [], [] => true
  | t :: ts, a :: as => tyIs T.ty t a && (a.plain && tysOk T ts as)
  | _, _ => false
/-- No type of the table that has cells is without bytes. -/
def Tabs.heavy (T : Tabs) (P : Program) : Bool := T.tyL.all fun p => Nat.beq p.2.n 0 || Nat.ble 1 (P.bytesOf p.1)
theorem Tabs.heavy_pos {T : Tabs} {P : Program} (h : T.heavy P = true) : ∀ t a, T.ty t = some a → a.n ≠ 0 → 0 < P.bytesOf t := by
  intro t a ht hn
  have := List.all_eq_true.1 h _ (tab_mem ht)
  simp only [Bool.or_eq_true] at this
  rcases this with h | h
  · exact absurd (Nat.eq_of_beq_eq_true h) hn
  · exact Nat.le_of_ble_eq_true h
theorem TabsOk.tyF {T : Tabs} {P : Program} (h : TabsOk P T) : ∀ t a, T.ty t = some a → TyF P T.ty T.el t a := by
  intro t a ht
  have h1 := h.ok
  simp only [Tabs.ok, Bool.and_eq_true, List.all_eq_true] at h1
  exact tyF_of (h1.1 _ (tab_mem ht)) ht

section
variable {H : Type} {enc : TypeId × Value → H} {P : Program} {T : Tabs} {w : World}

theorem value_read (hT : TabsOk P T) (hb : T.heavy P = true) {t : TypeId} {a : Ty} {v : Value} {d : DataW H} {ps : List MemPlace} {base : Nat} (ha : T.ty t = some a) (hp : a.plain = true) (hv : Value.okWide P w .any base t v) (h : DataW.Trod enc P w 0 (fun _ => true) true t v d ps) (hl : Light P t d) : ∃ x : a.D, VRep P a w noM v x := by
  obtain ⟨fuel, h⟩ := h
  obtain ⟨x, hx⟩ := (read_all (enc := enc) hT.tyF (Tabs.heavy_pos hb) a hp).1 t fuel _ d ps ha h hl
  refine ⟨x, _, hx, ?_⟩
  obtain ⟨i, de, h1, h2, h3, h4, h5, h6, h7, _⟩ := (hT.tyF _ _ ha).info
  cases a with
  | i k =>
    cases de <;> simp only [descIs] at h7 <;> first | cases h7 | skip
    obtain ⟨n, rfl⟩ := okWide_int h2 hv
    rfl
  | bo =>
    cases de <;> simp only [descIs] at h7 <;> first | cases h7 | skip
    obtain ⟨n, rfl⟩ := okWide_bool h2 hv
    rfl
  | sl b =>
    cases de <;> simp only [descIs] at h7 <;> first | cases h7 | skip
    obtain ⟨_, _, _, rfl⟩ := okWide_slice h2 hv
    rfl
  | st b =>
    cases de <;> simp only [descIs] at h7 <;> first | cases h7 | skip
    obtain ⟨cs, rfl, _⟩ := okWide_struct h2 hv
    simp [pack, Ty.agg, Value.cells]
  | u => cases de <;> simp only [descIs] at h7 <;> cases h7
  | p b c => cases de <;> simp only [descIs] at h7 <;> cases h7
  | arr n b => cases hp
  | ref b => cases hp
  | f1 b c => cases hp
  | f2 b c e => cases hp
  | sq n b => cases hp

theorem args_read (hT : TabsOk P T) (hb : T.heavy P = true) {base : Nat} : ∀ {ts : List TypeId} {vs : List Value} {ds : List (DataW H)} {ps : List MemPlace} {as : List Ty}, DataW.TrodAll enc P w 0 (fun _ => true) true ts vs ds ps → tysOk T ts as = true →
    (∀ (j : Nat) t v, ts[j]? = some t → vs[j]? = some v → Value.okWide P w .any base t v) → (∀ (j : Nat) t d, ts[j]? = some t → ds[j]? = some d → Light P t d) → ∃ x : Ds as, ARep P w noM as vs x
  | [], [], [], _, [], _, _, _, _ => ⟨(), rfl⟩
  | [t], v :: vs, d :: ds, _, [a], ⟨p, q, h1, h2, _⟩, htys, hok, hl => by
    cases vs with
    | cons _ _ => cases ds <;> exact h2.elim
    | nil =>
      simp only [tysOk, Bool.and_eq_true] at htys
      obtain ⟨x, hx⟩ := value_read hT hb (tyIs_eq htys.1) htys.2.1 (hok 0 t v rfl rfl) h1 (hl 0 t d rfl rfl)
      exact ⟨x, v, rfl, hx⟩
  | t :: t' :: ts, v :: vs, d :: ds, _, a :: a' :: as, ⟨p, q, h1, h2, _⟩, htys, hok, hl => by
    simp only [tysOk, Bool.and_eq_true] at htys
    obtain ⟨x, hx⟩ := value_read hT hb (tyIs_eq htys.1) htys.2.1 (hok 0 t v rfl rfl) h1 (hl 0 t d rfl rfl)
    obtain ⟨y, hy⟩ := args_read hT hb (as := a' :: as) h2 (by simp only [tysOk, Bool.and_eq_true]; exact htys.2.2) (fun j t v ht hv => hok (j + 1) t v (by simpa using ht) (by simpa using hv)) (fun j t d ht hd => hl (j + 1) t d (by simpa using ht) (by simpa using hd))
    exact ⟨(x, y), v, vs, rfl, hx, hy⟩
  | [], [], [], _, _ :: _, _, htys, _, _ => by cases htys
  | _ :: _, _ :: _, _ :: _, _, [], _, htys, _, _ => by cases htys
  | [_], _ :: _, _ :: _, _, _ :: _ :: _, _, htys, _, _ => by simp [tysOk] at htys
  | _ :: _ :: _, _ :: _, _ :: _, _, [_], _, htys, _, _ => by simp [tysOk] at htys
  | [], _ :: _, _, _, _, h, _, _, _ => h.elim
  | [], [], _ :: _, _, _, h, _, _, _ => h.elim
  | _ :: _, [], _, _, _, h, _, _, _ => h.elim
  | _ :: _, _ :: _, [], _, _, h, _, _, _ => h.elim

theorem trodAll_length : ∀ {ts : List TypeId} {vs : List Value} {ds : List (DataW H)} {ps : List MemPlace} {base : Nat} {sp : Nat → Bool} {held : Bool}, DataW.TrodAll enc P w base sp held ts vs ds ps → ds.length = ts.length
  | [], [], [], _, _, _, _, _ => rfl
  | _ :: _, _ :: _, _ :: _, _, _, _, _, ⟨_, _, _, h2, _⟩ => by simp [trodAll_length h2]
  | [], _ :: _, _, _, _, _, _, h => h.elim
  | [], [], _ :: _, _, _, _, _, h => h.elim
  | _ :: _, [], _, _, _, _, _, h => h.elim
  | _ :: _, _ :: _, [], _, _, _, _, h => h.elim
theorem tysOk_length {T : Tabs} : ∀ {ts : List TypeId} {as : List Ty}, tysOk T ts as = true → as.length = ts.length
  | [], [], _ => rfl
  | _ :: ts, _ :: as, h => by
    simp only [tysOk, Bool.and_eq_true] at h
    simp [tysOk_length h.2.2]
  | [], _ :: _, h => by cases h
  | _ :: _, [], h => by cases h

/-- What is read stays readable where nothing old has turned. -/
theorem trodAll_stays (hl : laidOutB P = true) {W W' : World} (hx : Ext noM W W') : ∀ {ts : List TypeId} {vs : List Value} {ds : List (DataW H)} {ps : List MemPlace}, (ts.all fun t => P.readableRec t && decide (t < P.types.size)) = true →
    DataW.TrodAll enc P W 0 (fun _ => true) true ts vs ds ps → (∀ x ∈ ps, x.block < W.heap.size) → DataW.TrodAll enc P W' 0 (fun b => decide (b < W.heap.size)) true ts vs ds ps
  | [], [], [], _, _, h, _ => h
  | t :: ts, v :: vs, d :: ds, _, hr, ⟨p, q, h1, h2, e⟩, hlt => by
    simp only [List.all_cons, Bool.and_eq_true, decide_eq_true_eq] at hr
    subst e
    refine ⟨p, q, Trod_stays hl hr.1.1 hr.1.2 h1 (fun x hx' => ?_) (fun x hx' => by simpa using hlt x (List.mem_append_left _ hx')), trodAll_stays hl hx hr.2 h2 (fun x hx' => hlt x (List.mem_append_right _ hx')), rfl⟩
    have hb := hlt x (List.mem_append_left _ hx')
    cases x with
    | cell b o => exact World.cell?_of_block (w := W) (hx.2 b hb id)
    | map b => exact hx.2 b hb id
  | [], _ :: _, _, _, _, h, _ => h.elim
  | [], [], _ :: _, _, _, h, _ => h.elim
  | _ :: _, [], _, _, _, h, _ => h.elim
  | _ :: _, _ :: _, [], _, _, h, _ => h.elim
theorem kept_of {W W' : World} (hx : Ext noM W W') (may : MemPlace → Prop) : W.keptBut W' may := by
  refine ⟨hx.io.1, hx.io.2, fun i hi => ?_⟩
  rw [hx.2 i hi id]
  split <;> simp_all

/-- **A law's call.** -/
theorem row_calls {f : Nat} {fn : Func} {args : List Ty} {pre : Ds args → Prop} {val : Ds args → Ds [.bo]} (hk : Sx.Good P f ⟨args, [.bo], pre, val⟩) (hpre : ∀ x, DsFits args x → pre x) (hval : ∀ x, val x = true)
    (hT : TabsOk P T) (hb : T.heavy P = true) (hl : laidOutB P = true) (htys : tysOk T fn.params.toList args = true) (hrd : (fn.params.toList.all fun t => P.readableRec t && decide (t < P.types.size)) = true)
    {B : TypeId} (hres : fn.resultTypes = #[B]) (hB : P.underlying B = some .bool) {s : ChangeSpec} (hs : s.vars = [])
    (hfn : ∀ ds : List (DataW H), ds.length = args.length → s.fn H ds = { results := [.lit (.bool true)], args := ds })
    {W : World} {base : Nat} {as : Array Value} {ds gs : List (DataW H)} {before : List MemPlace}
    (hok : ∀ (j : Nat) t v, fn.params[j]? = some t → as[j]? = some v → Value.okWide P W .any base t v)
    (hW : DataW.Whole enc P fn.params.toList s.vars false W as.toList ds gs before)
    (hwt : (DataW.weightsEach P (fn.params.toList ++ s.plain.varTypes P) (ds ++ gs)).all (· ≤ reachBytes) = true) :
    Calls P f as W fun e W' => ∃ v, e = .returned v ∧ s.post enc P fn false true false false W as v W' := by
  have hW' := hW
  have hlt := hW.lt
  obtain ⟨p, q, hA, hV, rfl, _, _⟩ := hW
  rw [hs] at hV
  cases gs with
  | cons _ _ => exact hV.elim
  | nil =>
  have hV : q = [] := hV
  subst hV
  rw [List.append_nil] at hlt
  have hlen := trodAll_length hA
  have hvt : s.plain.varTypes P = [] := by simp [ChangeSpec.plain, DataSpec.varTypes, hs]
  rw [hvt, List.append_nil, List.append_nil] at hwt
  obtain ⟨x, hx⟩ := args_read hT hb hA htys (fun j t v ht hv => hok j t v (by simpa using ht) (by simpa using hv)) (fun j t d ht hd n hn => by
    have := List.all_eq_true.1 hwt n (weights_each ht hd hn)
    simpa using this)
  have hc := hk.2 W noM as.toList x (fun _ h => h.elim) hx (hpre x hx.fits)
  rw [Array.toArray_toList] at hc
  refine Calls.mono hc ?_
  rintro e W' ⟨v, rfl, hext, hr⟩
  refine ⟨v, rfl, ?_⟩
  obtain ⟨cs, hcs, rfl⟩ : VRep P .bo W' noM v (val x) := hr
  have hcs : cs = [.bool (val x)] := hcs
  rw [hval x] at hcs
  subst hcs
  have hf := hfn ds (hlen.trans (tysOk_length htys).symm)
  refine ⟨ds, [], _, [], p, [], hW', ?_, ?_, ?_, World.keptBut_mono (fun _ h => h.elim) (kept_of hext fun _ => False), fun h => by cases h⟩
  · rw [List.append_nil, hf, hres]
    refine ⟨[], [], RowKit.shut_bool hB true, ?_, rfl⟩
    exact rfl
  · rw [List.append_nil, hf]
    exact trodAll_stays hl hext hrd hA hlt
  · rw [List.append_nil, hf, hs]
    exact rfl
end
end Go.Sx
