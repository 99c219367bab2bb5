/-
  VS, part 4: types, memory, and each quiet operation against the machine.
-/
import Derived.Test.YtkmcnmjjfgahpaaVsC
namespace Go.VS

/-! Types. -/
def isAggD : TypeDesc → Bool
  | .struct _ | .array _ _ => true
  | _ => false
def isAggV : Value → Bool
  | .agg _ => true
  | _ => false

def udOf : TypeDesc → UD
  | .slice e => .sl e
  | .struct fs => if fs.toList.any (·.name == "_") then .ot else .st (fs.toList.map fun f => (f.offset, f.type))
  | .array n e => .ar n e
  | .string => .str
  | .int k => .it k
  | .bool => .bl
  | .interface _ => .ifc
  | .pointer _ => .pt
  | _ => .ot

def tiOf (P : Program) (t : TypeId) : Option TI :=
  match P.info? t, P.underlying t with
  | some i, some d => match i.zero with
    | some z =>
      if z.cells.size == i.size && isAggD d == isAggV z && z.cells.toList.all (·.oneCell') then
        some { sz := i.size, agg := isAggD d, zero := z.cells.toList.map ofValue, bytes := i.bytes, und := udOf d,
               eqok := !(P.stoodInHeld t) && !(P.eqGuardType P.depth t) }
      else none
    | none => none
  | _, _ => none

structure TyOK (P : Program) (t : TypeId) (ti : TI) : Prop where
  out : ∃ i d z, P.info? t = some i ∧ P.underlying t = some d ∧ i.zero = some z ∧ i.size = ti.sz ∧ i.bytes = ti.bytes ∧ z.cells.size = ti.sz ∧
    isAggD d = ti.agg ∧ isAggV z = ti.agg ∧ (∀ (j : Nat) (v : Value), z.cells[j]? = some v → v.oneCell' = true) ∧ ti.zero = z.cells.toList.map ofValue ∧ udOf d = ti.und ∧
    (ti.eqok = true → P.stoodInHeld t = false ∧ P.eqGuardType P.depth t = false)

theorem tiOf_ok {P : Program} {t : TypeId} {ti : TI} (h : tiOf P t = some ti) : TyOK P t ti := by
  unfold tiOf at h
  split at h
  · rename_i i d hi hd
    split at h
    · rename_i z hz
      split at h
      · rename_i hc
        simp only [Bool.and_eq_true, beq_iff_eq, List.all_eq_true] at hc
        simp only [Option.some.injEq] at h
        subst h
        refine ⟨i, d, z, hi, hd, hz, rfl, rfl, hc.1.1, rfl, hc.1.2.symm, fun j v hv => hc.2 v ?_, rfl, rfl, fun he => by simpa using he⟩
        exact Array.mem_toList_iff.2 (Array.mem_of_getElem? hv)
      · simp at h
    · simp at h
  · simp at h

section types
variable {P : Program} {t : TypeId} {ti : TI} (h : TyOK P t ti) (w : World)
include h
theorem TyOK.sizeOf : (sizeOf t).run P w = .ok ti.sz w := by
  obtain ⟨i, d, z, hi, _, _, hs, _⟩ := h.out
  simp [Go.sizeOf, typeInfo, hi, hs]
theorem TyOK.isAgg : (isAgg t).run P w = .ok ti.agg w := by
  obtain ⟨i, d, z, _, hd, _, _, _, _, ha, _⟩ := h.out
  simp only [Go.isAgg, Sem.run_bind, run_underlying hd, Result.andThen_ok]
  rw [← ha]
  cases d <;> rfl
theorem TyOK.zeroValue : ∃ z, (zeroValue t).run P w = .ok z w ∧ z.cells.size = ti.sz ∧ isAggV z = ti.agg ∧ (∀ (j : Nat) (v : Value), z.cells[j]? = some v → v.oneCell' = true) ∧ ti.zero = z.cells.toList.map ofValue := by
  obtain ⟨i, d, z, hi, _, hz, _, _, h1, _, h2, h3, h4, _⟩ := h.out
  exact ⟨z, by simp [Go.zeroValue, typeInfo, hi, hz], h1, h2, h3, h4⟩
theorem TyOK.typeInfo : ∃ i, (typeInfo t).run P w = .ok i w ∧ i.bytes = ti.bytes ∧ i.size = ti.sz := by
  obtain ⟨i, d, z, hi, _, _, hs, hb, _⟩ := h.out
  exact ⟨i, by simp [Go.typeInfo, hi], hb, hs⟩
theorem TyOK.sl {e : TypeId} (hu : ti.und = .sl e) : (underlying t).run P w = .ok (.slice e) w := by
  obtain ⟨i, d, z, _, hd, _, _, _, _, _, _, _, _, hud, _⟩ := h.out
  rw [run_underlying hd]
  rw [hu] at hud
  cases d <;> simp [udOf] at hud
  · subst hud; rfl
  · split at hud <;> simp at hud
theorem TyOK.und_str (hu : ti.und = .str) : (underlying t).run P w = .ok .string w := by
  obtain ⟨i, d, z, _, hd, _, _, _, _, _, _, _, _, hud, _⟩ := h.out
  rw [run_underlying hd]
  rw [hu] at hud
  cases d <;> simp [udOf] at hud
  · rfl
  · split at hud <;> simp at hud
theorem TyOK.und_it {k : IntKind} (hu : ti.und = .it k) : (underlying t).run P w = .ok (.int k) w := by
  obtain ⟨i, d, z, _, hd, _, _, _, _, _, _, _, _, hud, _⟩ := h.out
  rw [run_underlying hd]
  rw [hu] at hud
  cases d <;> simp [udOf] at hud
  · subst hud; rfl
  · split at hud <;> simp at hud
theorem TyOK.und_bl (hu : ti.und = .bl) : (underlying t).run P w = .ok .bool w := by
  obtain ⟨i, d, z, _, hd, _, _, _, _, _, _, _, _, hud, _⟩ := h.out
  rw [run_underlying hd]
  rw [hu] at hud
  cases d <;> simp [udOf] at hud
  · rfl
  · split at hud <;> simp at hud
theorem TyOK.und_ifc (hu : ti.und = .ifc) : ∃ ms, (underlying t).run P w = .ok (.interface ms) w := by
  obtain ⟨i, d, z, _, hd, _, _, _, _, _, _, _, _, hud, _⟩ := h.out
  rw [run_underlying hd]
  rw [hu] at hud
  cases d <;> simp [udOf] at hud
  · split at hud <;> simp at hud
  · exact ⟨_, rfl⟩
theorem TyOK.und_ar {n : Nat} {e : TypeId} (hu : ti.und = .ar n e) : (underlying t).run P w = .ok (.array n e) w := by
  obtain ⟨i, d, z, _, hd, _, _, _, _, _, _, _, _, hud, _⟩ := h.out
  rw [run_underlying hd]
  rw [hu] at hud
  cases d <;> simp [udOf] at hud
  · obtain ⟨rfl, rfl⟩ := hud; rfl
  · split at hud <;> simp at hud
theorem TyOK.und_st {fs : List (Nat × TypeId)} (hu : ti.und = .st fs) : ∃ gs : Array Field, (underlying t).run P w = .ok (.struct gs) w ∧ fs = gs.toList.map (fun f => (f.offset, f.type)) ∧ (∀ f ∈ gs.toList, f.name ≠ "_") ∧ P.underlying t = some (.struct gs) := by
  obtain ⟨i, d, z, _, hd, _, _, _, _, _, _, _, _, hud, _⟩ := h.out
  rw [run_underlying hd]
  rw [hu] at hud
  cases d with
  | struct gs =>
    simp only [udOf] at hud
    split at hud
    · simp at hud
    · rename_i hn
      simp only [UD.st.injEq] at hud
      refine ⟨gs, rfl, hud.symm, fun f hf hfn => hn ?_, hd⟩
      exact List.any_eq_true.2 ⟨f, hf, by simp [hfn]⟩
  | _ => simp [udOf] at hud
end types

theorem FR.ofValue (w : World) (A : Avoid) (v : Value) : FR w A (ofValue v) v := by
  cases v with
  | int k n => exact .int k n
  | bool b => exact .bool b
  | string s => exact .str s
  | slice a l c =>
    cases a with
    | some a => exact .undef _
    | none => cases l with
      | zero => cases c with
        | zero => exact .nil
        | succ c => exact .undef _
      | succ l => exact .undef _
  | nilIface => exact .noerr
  | pointer a => cases a with
    | none => exact .nilp
    | some a => exact .undef _
  | _ => exact .undef _

/-! Frames. -/
structure SF (w : World) (H : Heap) (φ : Phi) (A : Avoid) (s : Frm) (a : Act) : Prop where
  len : s.length = a.tmps.size
  val : ∀ (t : Nat) (x : AV) (v : Value), s[t]? = some x → a.tmps[t]? = some v → R w H φ A x v
  dfr : a.defers = []

theorem SF.ev {w : World} {H : Heap} {φ : Phi} {A : Avoid} {s : Frm} {a : Act} (h : SF w H φ A s a) (x : Operand) : R w H φ A (ev s x) (a.eval x) := by
  cases x with
  | tmp t =>
    simp only [VS.ev, Act.eval, List.getD, Array.getD_eq_getD_getElem?]
    cases hs : s[t]? with
    | none => exact .fr _ _ (.undef _)
    | some x =>
      have ht : t < a.tmps.size := by rw [← h.len]; exact (List.getElem?_eq_some_iff.1 hs).1
      simp only [Array.getElem?_eq_getElem ht, Option.getD_some]
      exact h.val t x _ hs (Array.getElem?_eq_getElem ht)
  | const v => exact .fr _ _ (FR.ofValue w A v)
  | global g => exact .fr _ _ (.undef _)
  | func f => exact .fr _ _ (.fn f [] #[] rfl (by simp))

theorem SF.mono {w w' : World} {H H' : Heap} {φ φ' : Phi} {A A' : Avoid} {s : Frm} {a : Act} (e : Evo w H φ A w' H' φ' A') (h : SF w H φ A s a) : SF w' H' φ' A' s a :=
  ⟨h.len, fun t x v hx hv => (h.val t x v hx hv).mono e, h.dfr⟩

theorem SF.set {w : World} {H : Heap} {φ : Phi} {A : Avoid} {s : Frm} {a : Act} (h : SF w H φ A s a) (d : Option Tmp) {x : AV} {v : Value} (hx : R w H φ A x v) : SF w H φ A (setA s d x) (a.put d v) := by
  cases d with
  | none => exact h
  | some d =>
    refine ⟨by simp [setA, Act.put, h.len], fun t y u hy hu => ?_, h.dfr⟩
    simp only [setA, Act.put, List.getElem?_set, Array.getElem?_setIfInBounds] at hy hu
    by_cases hd : d = t
    · subst hd
      simp only [if_true] at hy hu
      split at hy
      · split at hu
        · simp at hy hu; subst hy; subst hu; exact hx
        · simp at hu
      · simp at hy
    · simp only [hd, if_false] at hy hu
      exact h.val t y u hy hu

/-! Memory. -/
theorem cell_at {w : World} {c : Nat} {arr : Array Value} {T : TypeId} {fr : Nat × Nat} (h : w.heap[c]? = some (.cells arr T fr)) (p : Nat) : w.cell? ⟨c, p, none⟩ = arr[p]? := by
  simp [World.cell?, h]
theorem add_none (c o n : Nat) : (Addr.mk c o none).add n = ⟨c, o + n, none⟩ := by
  unfold Addr.add; split
  · rename_i h; subst h; rfl
  · rfl

theorem run_loadCells_at (P : Program) {w : World} {c : Nat} {arr : Array Value} {T : TypeId} {fr : Nat × Nat} (h : w.heap[c]? = some (.cells arr T fr)) (p n : Nat) (hn : p + n ≤ arr.size) :
    (loadCells ⟨c, p, none⟩ n).run P w = .ok (arr.extract p (p + n)) w := by
  rw [run_loadCells w ⟨c, p, none⟩ n (fun j => arr.getD (p + j) undef) (fun j hj => by
    rw [add_none, cell_at h, Array.getD_eq_getD_getElem?]
    simp [Array.getElem?_eq_getElem (show p + j < arr.size by omega)])]
  congr 1
  apply Array.ext
  · simp; omega
  · intro i h1 h2
    simp at h1
    simp [Array.getElem?_eq_getElem (show p + i < arr.size by omega)]

theorem run_loadVar_at {P : Program} {t : TypeId} {ti : TI} (ht : TyOK P t ti) {w : World} {c : Nat} {arr : Array Value} {T : TypeId} {fr : Nat × Nat}
    (h : w.heap[c]? = some (.cells arr T fr)) {p : Nat} (hp : p + ti.sz ≤ arr.size) (h1 : ti.agg = false → ti.sz = 1) :
    ∃ v, (loadVar t ⟨c, p, none⟩).run P w = .ok v w ∧ (ti.agg = true → v = .agg (arr.extract p (p + ti.sz))) ∧ (ti.agg = false → arr[p]? = some v) := by
  unfold loadVar
  simp only [Sem.run_bind, ht.isAgg, Result.andThen_ok]
  cases ha : ti.agg with
  | true =>
    refine ⟨.agg (arr.extract p (p + ti.sz)), ?_, fun _ => rfl, by simp⟩
    simp [ht.sizeOf, run_loadCells_at P h p ti.sz hp]
  | false =>
    have := h1 ha
    have hlt : p < arr.size := by omega
    refine ⟨arr[p], ?_, by simp, fun _ => Array.getElem?_eq_getElem hlt⟩
    simp [cell_at h, Array.getElem?_eq_getElem hlt]

theorem mkT_some {agg : Bool} {cs : List AV} {y : AV} (h : mkT agg cs = some y) : (agg = true ∧ y = .agg cs) ∨ (agg = false ∧ cs = [y]) := by
  cases agg with
  | true => simp [mkT] at h; exact .inl ⟨rfl, h.symm⟩
  | false =>
    simp only [mkT, Bool.false_eq_true, if_false] at h
    split at h
    · simp only [Option.some.injEq] at h; subst h; exact .inr ⟨rfl, rfl⟩
    · simp at h

/-- Reading an element out of memory. -/
theorem rdAt_load {P : Program} {t : TypeId} {ti : TI} (ht : TyOK P t ti) {w : World} {c : Nat} {arr : Array Value} {T : TypeId} {fr : Nat × Nat}
    (h : w.heap[c]? = some (.cells arr T fr)) {x y : AV} {off o : Nat} (hr : rdAt ti x off = some y) (ho : o + x.cells.length ≤ arr.size)
    {H : Heap} {φ : Phi} {A : Avoid} (hx : ∀ (j : Nat) (y : AV) (v : Value), x.cells[j]? = some y → arr[o + j]? = some v → R w H φ A y v)
    (h1c : ∀ (j : Nat) (v : Value), j < x.cells.length → arr[o + j]? = some v → v.oneCell' = true) :
    ∃ v, (loadVar t ⟨c, o + off, none⟩).run P w = .ok v w ∧ R w H φ A y v := by
  unfold rdAt at hr
  split at hr
  · rename_i hle
    have hsz : ti.agg = false → ti.sz = 1 := by
      intro ha
      rcases mkT_some hr with ⟨h1, _⟩ | ⟨_, h2⟩
      · simp [ha] at h1
      · have := congrArg List.length h2
        simp [subL] at this
        omega
    obtain ⟨v, hv, h1, h2⟩ := run_loadVar_at ht h (p := o + off) (by omega) hsz
    refine ⟨v, hv, ?_⟩
    rcases mkT_some hr with ⟨ha, rfl⟩ | ⟨ha, hcs⟩
    · rw [h1 ha]
      refine .agg _ _ (by simp [subL]; omega) (fun j u hu => ?_) fun i z u hz hu => ?_
      · simp only [Array.getElem?_extract] at hu
        split at hu
        · exact h1c (off + j) u (by omega) (by rw [← hu]; congr 1; omega)
        · simp at hu
      simp only [subL, List.getElem?_take, List.getElem?_drop, Array.getElem?_extract] at hz hu
      split at hz
      · split at hu
        · exact hx _ _ _ hz (by rw [← hu]; congr 1; omega)
        · simp at hu
      · simp at hz
    · have hu := h2 ha
      have : x.cells[off]? = some y := by
        have := congrArg (·[0]?) hcs
        simp only [subL, List.getElem?_take, List.getElem?_drop] at this
        have h1 := hsz ha
        simp [h1] at this
        exact this
      exact hx off y v this hu
  · simp at hr

/-- A part of an aggregate. -/
theorem rdAt_part {P : Program} {t : TypeId} {ti : TI} (ht : TyOK P t ti) (w : World) {xs : List AV} {vs : Array Value} {y : AV} {off : Nat}
    (hr : rdAt ti (.agg xs) off = some y) (hl : xs.length = vs.size) {H : Heap} {φ : Phi} {A : Avoid} {w0 : World}
    (hx : ∀ (i : Nat) (x : AV) (v : Value), xs[i]? = some x → vs[i]? = some v → R w0 H φ A x v)
    (h1c : ∀ (j : Nat) (v : Value), vs[j]? = some v → v.oneCell' = true) :
    ∃ v, (part t vs off).run P w = .ok v w ∧ R w0 H φ A y v := by
  unfold rdAt at hr
  by_cases hle : off + ti.sz ≤ (AV.agg xs).cells.length
  · rw [if_pos hle] at hr
    simp only [AV.cells] at hr hle
    unfold part
    simp only [Sem.run_bind, ht.isAgg, Result.andThen_ok]
    rcases mkT_some hr with ⟨ha, rfl⟩ | ⟨ha, hcs⟩
    · simp only [ha, if_true, Sem.run_bind, ht.sizeOf, Result.andThen_ok, Sem.run_pure]
      refine ⟨_, rfl, .agg _ _ (by simp [subL]; omega) (fun j u hu => ?_) fun i z u hz hu => ?_⟩
      · simp only [Array.getElem?_extract] at hu
        split at hu
        · exact h1c _ u hu
        · simp at hu
      simp only [subL, List.getElem?_take, List.getElem?_drop, Array.getElem?_extract] at hz hu
      split at hz
      · split at hu
        · exact hx _ _ _ hz hu
        · simp at hu
      · simp at hz
    · have hlen := congrArg List.length hcs
      simp [subL] at hlen
      have hoff : off < vs.size := by omega
      simp only [ha, Bool.false_eq_true, if_false, Array.getElem?_eq_getElem hoff, Sem.run_pure]
      refine ⟨_, rfl, hx off y _ ?_ (Array.getElem?_eq_getElem hoff)⟩
      have := congrArg (·[0]?) hcs
      simp only [subL, List.getElem?_take, List.getElem?_drop] at this
      split at this
      · simpa using this
      · simp at this
  · rw [if_neg hle] at hr; simp at hr

end Go.VS
