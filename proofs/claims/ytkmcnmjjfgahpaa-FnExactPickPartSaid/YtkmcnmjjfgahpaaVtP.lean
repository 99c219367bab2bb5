/-
  VS, part 42: what a function owns, and the operations on it.
-/
import Derived.Test.YtkmcnmjjfgahpaaVtO
namespace Go.VS

/-- A slice or a variable that is owned: its value, its elements' size, its elements. -/
structure It where
  v : AV
  sz : Nat
  el : List AV

def idOf : AV → Option Nat
  | .ref id _ _ _ => some id
  | .ptr id _ _ _ => some id
  | _ => none

def ItOK (H : Heap) (it : It) : Prop := szAll it.sz it.el = true ∧ match it.v with
  | .nil => it.el = []
  | .e0 => it.el = []
  | .ref id ver off len => len = it.el.length ∧ ∃ b, H.blk id ver = some b ∧ b.sz = it.sz ∧ b.fix = false ∧ off + len ≤ b.el.length ∧ subL b.el off len = it.el
  | .ptr id ver idx off => idx = 0 ∧ off = 0 ∧ it.el.length = 1 ∧ H.blk id ver = some ⟨ver, it.sz, false, it.el⟩
  | _ => False

structure Own (H : Heap) (L : List It) : Prop where
  ok : ∀ (i : Nat) (it : It), L[i]? = some it → ItOK H it
  dis : ∀ (i j : Nat) (a b : It) (id : Nat), L[i]? = some a → L[j]? = some b → idOf a.v = some id → idOf b.v = some id → i = j

theorem ItOK.lt {H : Heap} {it : It} (h : ItOK H it) {id : Nat} (hi : idOf it.v = some id) : id < H.bs.length := by
  obtain ⟨_, h⟩ := h
  cases hv : it.v with
  | ref i ver off len =>
    rw [hv] at h hi
    simp only [idOf, Option.some.injEq] at hi; subst hi
    obtain ⟨_, b, hb, _⟩ := h
    exact Heap.get_lt (Heap.blk_get hb).1
  | ptr i ver ix off =>
    rw [hv] at h hi
    simp only [idOf, Option.some.injEq] at hi; subst hi
    obtain ⟨_, _, _, hb⟩ := h
    exact Heap.get_lt (Heap.blk_get hb).1
  | _ => rw [hv] at hi; simp [idOf] at hi

/-- What lies elsewhere stays. -/
theorem ItOK.frame {H H' : Heap} {it : It} (h : ItOK H it) (hk : ∀ id ver, idOf it.v = some id → H'.blk id ver = H.blk id ver) : ItOK H' it := by
  obtain ⟨h0, h⟩ := h
  refine ⟨h0, ?_⟩
  cases hv : it.v with
  | ref i ver off len =>
    rw [hv] at h hk
    obtain ⟨h1, b, hb, h2⟩ := h
    exact ⟨h1, b, by rw [hk i ver rfl]; exact hb, h2⟩
  | ptr i ver ix off =>
    rw [hv] at h hk
    obtain ⟨h1, h2, h3, hb⟩ := h
    exact ⟨h1, h2, h3, by rw [hk i ver rfl]; exact hb⟩
  | _ => rw [hv] at h; exact h

theorem Own.tl {H : Heap} {a : It} {L : List It} (h : Own H (a :: L)) : Own H L :=
  ⟨fun i it hi => h.ok (i + 1) it hi, fun i j x y id h1 h2 h3 h4 => by have := h.dis (i + 1) (j + 1) x y id h1 h2 h3 h4; omega⟩

theorem Own.nil (H : Heap) : Own H [] := ⟨by simp, by simp⟩

/-- One thing changes. -/
theorem Own.upd {H H' : Heap} {L : List It} (h : Own H L) {j : Nat} {it it' : It} (hj : L[j]? = some it) {i : Nat} (hi : idOf it.v = some i) (hk : ∀ id ver, id ≠ i → id < H.bs.length → H'.blk id ver = H.blk id ver) (hn : ItOK H' it') (hid : ∀ k, idOf it'.v = some k → k = i) : Own H' (L.set j it') := by
  have hlt : j < L.length := (List.getElem?_eq_some_iff.1 hj).1
  refine ⟨fun k a hk' => ?_, fun k l a b id h1 h2 h3 h4 => ?_⟩
  · rw [List.getElem?_set] at hk'
    split at hk'
    · simp only [Option.some.injEq] at hk'; subst hk'; exact hn
    · rename_i hne
      have ho := h.ok k a hk'
      refine ho.frame fun id ver hid' => hk id ver (fun e => ?_) (ho.lt hid')
      subst e
      exact hne (h.dis j k it a id hj hk' hi hid')
  · rw [List.getElem?_set] at h1 h2
    split at h1
    · rename_i e1; subst e1
      simp only [Option.some.injEq] at h1; subst h1
      split at h2
      · rename_i e2; exact e2
      · have := hid id h3; subst this
        exact h.dis j l it b id hj h2 hi h4
    · split at h2
      · rename_i e2; subst e2
        simp only [Option.some.injEq] at h2; subst h2
        have := hid id h4; subst this
        exact h.dis k j a it id h1 hj h3 hi
      · exact h.dis k l a b id h1 h2 h3 h4

/-- A thing is found to be elsewhere (or nowhere), the heap grown. -/
theorem Own.new {H H' : Heap} {L : List It} (h : Own H L) (hk : ∀ id ver, id < H.bs.length → H'.blk id ver = H.blk id ver) {it : It} (hn : ItOK H' it) (hid : ∀ k, idOf it.v = some k → H.bs.length ≤ k) : Own H' (it :: L) := by
  refine ⟨fun k a hk' => ?_, fun k l a b id h1 h2 h3 h4 => ?_⟩
  · cases k with
    | zero => simp at hk'; subst hk'; exact hn
    | succ k => have ho := h.ok k a (by simpa using hk'); exact ho.frame fun id ver hi => hk id ver (ho.lt hi)
  · cases k with
    | zero =>
      simp at h1; subst h1
      cases l with
      | zero => rfl
      | succ l =>
        have := (h.ok l b (by simpa using h2)).lt h4
        have := hid id h3
        omega
    | succ k =>
      cases l with
      | zero =>
        simp at h2; subst h2
        have := (h.ok k a (by simpa using h1)).lt h3
        have := hid id h4
        omega
      | succ l => have := h.dis k l a b id (by simpa using h1) (by simpa using h2) h3 h4; omega

/-- A thing that lay nowhere comes to lie somewhere new. -/
theorem Own.updNew {H H' : Heap} {L : List It} (h : Own H L) (hk : ∀ id ver, id < H.bs.length → H'.blk id ver = H.blk id ver) {j : Nat} {it' : It} (hn : ItOK H' it') (hid : ∀ k, idOf it'.v = some k → H.bs.length ≤ k) : Own H' (L.set j it') := by
  refine ⟨fun k a hk' => ?_, fun k l a b id h1 h2 h3 h4 => ?_⟩
  · rw [List.getElem?_set] at hk'
    split at hk'
    · split at hk'
      · simp only [Option.some.injEq] at hk'; subst hk'; exact hn
      · simp at hk'
    · have ho := h.ok k a hk'; exact ho.frame fun id ver hi => hk id ver (ho.lt hi)
  · rw [List.getElem?_set] at h1 h2
    split at h1
    · rename_i e1; subst e1
      split at h1
      · simp only [Option.some.injEq] at h1; subst h1
        split at h2
        · rename_i e2; exact e2
        · have := (h.ok l b h2).lt h4; have := hid id h3; omega
      · simp at h1
    · split at h2
      · rename_i e2; subst e2
        split at h2
        · simp only [Option.some.injEq] at h2; subst h2
          have := (h.ok k a h1).lt h3; have := hid id h4; omega
        · simp at h2
      · exact h.dis k l a b id h1 h2 h3 h4

theorem blk_new_old {H : Heap} {sz : Nat} {fx : Bool} {el : List AV} {id ver : Nat} (h : id < H.bs.length) : (H.new sz fx el).blk id ver = H.blk id ver := by
  simp only [Heap.blk, Heap.new, List.getElem?_append_left h]
theorem blk_new {H : Heap} {sz : Nat} {fx : Bool} {el : List AV} : (H.new sz fx el).blk H.bs.length H.st = some ⟨H.st, sz, fx, el⟩ := by
  simp [Heap.blk, Heap.new]
theorem blk_upd_ne {H : Heap} {i id ver : Nat} {b : Blk} (h : id ≠ i) : (H.upd i b).blk id ver = H.blk id ver := by
  have h' : ¬ i = id := fun e => h e.symm
  simp only [Heap.blk, Heap.upd, List.getElem?_set, if_neg h']
theorem blk_upd {H : Heap} {id : Nat} {b : Blk} (h : id < H.bs.length) : (H.upd id b).blk id b.ver = some b := by
  simp [Heap.blk, Heap.upd, h]

section
variable {C : Ctx} {th : Bool} {s : Frm} {H : Heap} {K : AV → Heap → Prop} {L : List It}

theorem Own.newSl (hS : Own H L) {sz n : Nat} {el all : List AV} (he : all.take n = el) (hn : n = el.length) (hsz : szAll sz el = true) : Own (H.new sz false all) (⟨.ref H.bs.length H.st 0 n, sz, el⟩ :: L) := by
  refine hS.new (fun id ver h => blk_new_old h) ⟨hsz, hn, _, blk_new, rfl, rfl, ?_, by simpa [subL] using he⟩ (fun k hk => by simp [idOf] at hk; omega)
  have := congrArg List.length he
  simp at this
  simp only; omega

theorem Own.newVar (hS : Own H L) {sz : Nat} {a : AV} (hsz : a.cells.length = sz) : Own (H.new sz false [a]) (⟨.ptr H.bs.length H.st 0 0, sz, [a]⟩ :: L) :=
  hS.new (fun id ver h => blk_new_old h) ⟨by simp [szAll, hsz], rfl, rfl, rfl, blk_new⟩ (fun k hk => by simp [idOf] at hk; omega)

/-- A variable's block. -/
theorem Own.var (hS : Own H L) (j : Nat) {id ver sz : Nat} {a : AV} (hj : L[j]? = some ⟨.ptr id ver 0 0, sz, [a]⟩) : H.blk id ver = some ⟨ver, sz, false, [a]⟩ := (hS.ok j _ hj).2.2.2.2

theorem w_box {t : TypeId} {x : Operand} {ti : TI} {a : AV} (hS : Own H L) (ht : C.E t = some ti) (hx : ev s x = a) (h1 : a.cells.length = ti.sz) (h2 : storA a = true)
    (h : ∀ id ver H', Own H' (⟨.ptr id ver 0 0, ti.sz, [a]⟩ :: L) → K (.ptr id ver 0 0) H') {q : Bool} : wpO (ACall C) C q th (.box t x) s H K := by
  rw [wpO_pure _ rfl]
  simp only [evalOp, ht, hx, h1, h2, and_self, if_true, resO]
  exact h _ _ _ (hS.newVar h1)

theorem mkT_len {ti : TI} {z : AV} (h : zeroA ti = some z) : z.cells.length = ti.sz := by
  unfold zeroA at h
  split at h
  · rename_i hc
    rcases mkT_some h with ⟨_, rfl⟩ | ⟨_, hz⟩
    · exact hc.2
    · have : stor1 z = true := by have := hc.1; rw [hz] at this; simpa using this
      have hl := hc.2; rw [hz] at hl
      cases z <;> first | exact hl | simp [stor1] at this
  · simp at h

theorem zeroE_len {ti : TI} {z : AV} (h : zeroE ti = some z) : z.cells.length = ti.sz := by
  unfold zeroE at h
  split at h
  · rename_i z0 hz0
    simp only [Option.some.injEq] at h
    subst h
    split
    · rw [wkA_cells, List.length_map]; exact mkT_len hz0
    · exact mkT_len hz0
  · simp at h
theorem w_alloc {t : TypeId} {ti : TI} {z : AV} (hS : Own H L) (ht : C.E t = some ti) (hz : zeroA ti = some z)
    (h : ∀ id ver H', Own H' (⟨.ptr id ver 0 0, ti.sz, [z]⟩ :: L) → K (.ptr id ver 0 0) H') {q : Bool} : wpO (ACall C) C q th (.alloc t) s H K := by
  rw [wpO_pure _ rfl]
  simp only [evalOp, ht, hz, resO]
  exact h _ _ _ (hS.newVar (mkT_len hz))

/-- A variable is written. -/
theorem w_stv {t : TypeId} {x v : Operand} {ti : TI} {id ver sz o : Nat} {y y' a : AV} (j : Nat) (hS : Own H L) (hj : L[j]? = some ⟨.ptr id ver 0 0, sz, [y]⟩) (ht : C.E t = some ti) (hx : ev s x = .ptr id ver 0 o) (hv : ev s v = a)
    (h1 : a.cells.length = ti.sz) (h2 : storA a = true) (hw : wrAt y o a = some y') (h3 : y'.cells.length = sz) (h : ∀ H', Own H' (L.set j ⟨.ptr id ver 0 0, sz, [y']⟩) → K (.tup []) H') : wpO (ACall C) C false th (.store t x v) s H K := by
  rw [wpO_wr _ (by simp)]
  have hb := hS.var j hj
  simp only [evalOp, ht, hx, hv, hb, List.getElem?_cons_zero, h1, h2, and_self, if_true, hw, List.set_cons_zero, resO]
  refine h _ (hS.upd hj rfl (fun id' ver' hne _ => blk_upd_ne hne) ⟨by simp [szAll, h3], rfl, rfl, rfl, ?_⟩ (fun k hk => by simpa [idOf] using hk.symm))
  exact blk_upd ((hS.ok j _ hj).lt rfl)
end

/-! Slices that are read. -/
def idx {α : Type} (l : List α) (i : Int) : Option α := if 0 ≤ i then l[i.toNat]? else none
theorem idx_map {α β : Type} (f : α → β) (l : List α) (i : Int) : idx (l.map f) i = (idx l i).map f := by
  unfold idx; split
  · simp
  · rfl
theorem idx_some {α : Type} {l : List α} {i : Int} {x : α} (h : idx l i = some x) : 0 ≤ i ∧ i < l.length ∧ l[i.toNat]? = some x := by
  unfold idx at h
  split at h
  · rename_i h0
    have := (List.getElem?_eq_some_iff.1 h).1
    exact ⟨h0, by omega, h⟩
  · simp at h

def elT (E : TEnv) (t : TypeId) : Option TI := match E t with
  | some ti => match ti.und with | .sl e => E e | _ => none
  | none => none

section
variable {C : Ctx} {q th : Bool} {s : Frm} {H : Heap} {K : AV → Heap → Prop} {L : List It}

def sidxK (l : List UInt8) (n : Int) (H : Heap) (K : AV → Heap → Prop) : Prop := match idx l n with | some b => K (.int .u8 b.toNat) H | none => False
def indK (E : TEnv) (ti : Option TI) (x i : AV) (H : Heap) (K : AV → Heap → Prop) : Prop := match ti, i with
  | some ti, .int _ n => match ti.und, x with
    | .str, .str l => sidxK l n H K
    | .ar m e, .agg cs => match E e with
      | some te => if 0 ≤ n ∧ n < m then resV (rdAt te (.agg cs) (n.toNat * te.sz)) H K else False
      | none => False
    | _, _ => False
  | _, _ => False
theorem o_index (t : TypeId) (x i : Operand) : wpO (ACall C) C q th (.index t x i) s H K = indK C.E (C.E t) (ev s x) (ev s i) H K := by
  rw [wpO_pure _ rfl]
  simp only [evalOp, indK]
  generalize ev s i = n
  generalize ev s x = a
  cases C.E t with
  | none => rfl
  | some ti =>
    cases n
    case int k n =>
      simp only
      cases ti.und <;> cases a <;> try rfl
      · rename_i m e cs
        simp only
        cases C.E e with
        | none => rfl
        | some te =>
          simp only
          split
          · generalize rdAt te (.agg cs) (n.toNat * te.sz) = z; cases z <;> rfl
          · rfl
      · rename_i l
        simp only [sidxK, idx]
        split
        · cases l[n.toNat]? <;> rfl
        · rfl
    all_goals rfl
def isStrU : UD → Bool
  | .str => true
  | _ => false
theorem isStrU_s : isStrU .str = true := rfl
def isSlU : UD → Bool
  | .sl _ => true
  | _ => false
theorem isSlU_s (e : TypeId) : isSlU (.sl e) = true := rfl
theorem indK_s (E : TEnv) (ti : TI) (hu : isStrU ti.und = true) (l : List UInt8) (k : IntKind) (n : Int) : indK E (some ti) (.str l) (.int k n) H K = sidxK l n H K := by
  cases h : ti.und <;> rw [h] at hu <;> simp [isStrU] at hu
  simp only [indK, h]
theorem indK_a (E : TEnv) (ti : TI) (m : Nat) (e : TypeId) (hu : ti.und = .ar m e) (cs : List AV) (k : IntKind) (n : Int) : indK E (some ti) (.agg cs) (.int k n) H K = (match E e with | some te => if 0 ≤ n ∧ n < m then resV (rdAt te (.agg cs) (n.toNat * te.sz)) H K else False | none => False) := by
  simp only [indK, hu]
theorem w_sidx {α : Type} {l : List UInt8} {n : Int} {f : UInt8 → Option α} {r : α} (h : (idx l n).bind f = some r) (hk : ∀ b, idx l n = some b → f b = some r → K (.int .u8 b.toNat) H) : sidxK l n H K := by
  unfold sidxK
  cases hi : idx l n with
  | none => rw [hi] at h; simp at h
  | some b => rw [hi] at h; exact hk b hi h

def iaK (E : TEnv) (t : TypeId) (x i : AV) (H : Heap) (K : AV → Heap → Prop) : Prop := resO (match E t, i with
    | some ti, .int _ n => match ti.und with
      | .sl e => match E e with
        | some te => match x with
          | .fz xs => if 0 ≤ n then match xs[n.toNat]? with
              | some y => if y.cells.length = te.sz then some (.fe y 0, H) else none
              | none => none
            else none
          | .ref id ver off len => match H.blk id ver with
            | some b => if b.sz = te.sz ∧ 0 ≤ n ∧ n < len ∧ off + len ≤ b.el.length then some (.ptr id ver (off + n.toNat) 0, H) else none
            | none => none
          | _ => none
        | none => none
      | .ar m e => match E e with
        | some te => if 0 ≤ n ∧ n < m then match x with
            | .ptr id ver idx off => match H.blk id ver with
              | some _ => some (.ptr id ver idx (off + n.toNat * te.sz), H)
              | none => none
            | .fe y off => some (.fe y (off + n.toNat * te.sz), H)
            | _ => none
          else none
        | none => none
      | _ => none
    | _, _ => none) K
theorem o_ia (t : TypeId) (x i : Operand) : wpO (ACall C) C q th (.indexAddr t x i) s H K = iaK C.E t (ev s x) (ev s i) H K := by
  rw [wpO_pure _ rfl]; rfl
/-- An element of a slice that nobody writes. -/
theorem w_fz {α β : Type} {E : TEnv} {t : TypeId} {ti te : TI} {e : TypeId} (ht : E t = some ti) (hu : ti.und = .sl e) (he : E e = some te) {l : List α} {c : α → AV} (hc : ∀ x, (c x).cells.length = te.sz) {k : IntKind} {n : Int} {f : α → Option β} {r : β} (h : (idx l n).bind f = some r)
    (hk : ∀ x, idx l n = some x → f x = some r → K (.fe (c x) 0) H) : iaK E t (.fz (l.map c)) (.int k n) H K := by
  cases hi : idx l n with
  | none => rw [hi] at h; simp at h
  | some x =>
    rw [hi] at h
    obtain ⟨h0, _, h1⟩ := idx_some hi
    simp only [iaK, ht, hu, he, h0, if_true, List.getElem?_map, h1, Option.map_some, hc, resO]
    exact hk x hi h
/-- An element of a slice that is owned. -/
theorem w_ow {α β : Type} {E : TEnv} {t : TypeId} {ti te : TI} {e : TypeId} (j : Nat) (hS : Own H L) {v : AV} {l : List α} {c : α → AV} {sz : Nat} (hj : L[j]? = some ⟨v, sz, l.map c⟩) (ht : E t = some ti) (hu : ti.und = .sl e) (he : E e = some te) (hsz : sz = te.sz) {k : IntKind} {n : Int} {f : α → Option β} {r : β}
    (h : (idx l n).bind f = some r) (hk : ∀ x id ver off, idx l n = some x → f x = some r → v = .ref id ver off l.length → K (.ptr id ver (off + n.toNat) 0) H) (hp : ∀ id ver, v ≠ .ptr id ver 0 0) : iaK E t v (.int k n) H K := by
  cases hi : idx l n with
  | none => rw [hi] at h; simp at h
  | some x =>
    rw [hi] at h
    obtain ⟨h0, h2, h1⟩ := idx_some hi
    have hok := (hS.ok j _ hj).2
    simp only at hok
    have hne : l.map c ≠ [] := by intro e; rw [List.map_eq_nil_iff] at e; subst e; simp at h1
    split at hok
    · exact absurd hok hne
    · exact absurd hok hne
    · rename_i id ver off len
      obtain ⟨h3, b, hb, h4, _, h5, h6⟩ := hok
      simp only [List.length_map] at h3
      subst h3
      simp only [iaK, ht, hu, he, hb]
      rw [if_pos ⟨by rw [h4, hsz], h0, h2, h5⟩]
      exact hk x id ver off hi h rfl
    · rename_i id ver ix off
      obtain ⟨rfl, rfl, _⟩ := hok
      exact absurd rfl (hp id ver)
    · exact hok.elim
/-- Where it lies. -/
theorem Own.elem {α : Type} (hS : Own H L) (j : Nat) {id ver off n sz : Nat} {v : AV} {l : List α} {c : α → AV} (hj : L[j]? = some ⟨v, sz, l.map c⟩) (hv : v = .ref id ver off n) {i : Int} {x : α} (hx : idx l i = some x) : ∃ b, H.blk id ver = some b ∧ b.el[off + i.toNat]? = some (c x) := by
  obtain ⟨h0, h2, h1⟩ := idx_some hx
  subst hv
  obtain ⟨_, h3, b, hb, h4, _, h5, h6⟩ := hS.ok j _ hj
  refine ⟨b, hb, ?_⟩
  simp only at h3 h6
  have := congrArg (·[i.toNat]?) h6
  simp only [List.getElem?_map, h1, Option.map_some, subL] at this
  rw [← this, List.getElem?_take, List.getElem?_drop, if_pos (by simp at h3; omega)]

/-- An element is written. -/
theorem w_ste {α : Type} {t : TypeId} {x w : Operand} {ti : TI} {id ver off n sz o : Nat} {v a : AV} {l : List α} {c : α → AV} {i : Int} {y y' : α} (j : Nat) (hS : Own H L) (hj : L[j]? = some ⟨v, sz, l.map c⟩) (hv : v = .ref id ver off n) (hi : idx l i = some y) (ht : C.E t = some ti) (hx : ev s x = .ptr id ver (off + i.toNat) o) (hw : ev s w = a)
    (h1 : a.cells.length = ti.sz) (h2 : storA a = true) (hr : wrAt (c y) o a = some (c y')) (h3 : (c y').cells.length = sz) (h : ∀ H', Own H' (L.set j ⟨v, sz, (l.set i.toNat y').map c⟩) → K (.tup []) H') : wpO (ACall C) C false th (.store t x w) s H K := by
  rw [wpO_wr _ (by simp)]
  obtain ⟨b, hb, he⟩ := hS.elem j hj hv hi
  simp only [evalOp, ht, hx, hw, hb, he, h1, h2, and_self, if_true, hr, resO]
  subst hv
  obtain ⟨k0, k1, b', hb', k2, k3, k4, k5⟩ := hS.ok j _ hj
  rw [hb] at hb'
  simp only [Option.some.injEq] at hb'; subst hb'
  simp only at k1 k5
  obtain ⟨i0, i1, i2⟩ := idx_some hi
  have hver := (Heap.blk_get hb).2
  refine h _ (hS.upd hj rfl (fun id' ver' hne _ => blk_upd_ne hne) ⟨?_, by simpa using k1, { b with el := b.el.set (off + i.toNat) (c y') }, ?_, k2, k3, by simpa using k4, ?_⟩ (fun k hk => by simpa [idOf] using hk.symm))
  · simp only [szAll, List.all_eq_true, List.mem_map] at k0 ⊢
    rintro z ⟨z', hz, rfl⟩
    rcases List.mem_or_eq_of_mem_set hz with h' | rfl
    · exact k0 _ ⟨z', h', rfl⟩
    · simpa using h3
  · have := blk_upd (b := { b with el := b.el.set (off + i.toNat) (c y') }) ((hS.ok j _ hj).lt rfl)
    simpa only [hver] using this
  · simp only [subL, List.map_set] at k5 ⊢
    rw [← k5, List.drop_set, if_neg (by omega), List.take_set]
    congr 1
    omega
end
end Go.VS
