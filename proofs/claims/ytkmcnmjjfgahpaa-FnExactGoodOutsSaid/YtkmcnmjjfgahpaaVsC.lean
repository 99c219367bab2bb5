/-
  VS, part 3: how abstract values and heaps stand to the machine's.
-/
import Derived.Test.YtkmcnmjjfgahpaaVsB
import Derived.Below
namespace Go.VS

/-- Where a block of the abstract heap lies. 'virt': an empty one that lies nowhere. -/
inductive Loc where
  | virt
  | at_ (c b : Nat)

abbrev Phi := Nat → Option Loc
abbrev Avoid := Nat → Prop

def Ow (φ : Phi) (c : Nat) : Prop := ∃ id b, φ id = some (.at_ c b)

def bsz (w : World) (c : Nat) : Nat := match w.heap[c]? with | some (.cells arr _ _) => arr.size | _ => 0

/-- A deep value that nobody writes; 'A': blocks in which it may not lie. -/
inductive FR (w : World) (A : Avoid) : AV → Value → Prop
  | undef (v) : FR w A .undef v
  | int (k n) : FR w A (.int k n) (.int k n)
  | bool (b) : FR w A (.bool b) (.bool b)
  | str (s : ByteArray) : FR w A (.str s.data.toList) (.string s)
  | agg (xs : List AV) (vs : Array Value) : xs.length = vs.size → (∀ (j : Nat) (v : Value), vs[j]? = some v → v.oneCell' = true) → (∀ (i : Nat) (x : AV) (v : Value), xs[i]? = some x → vs[i]? = some v → FR w A x v) → FR w A (.agg xs) (.agg vs)
  | tup (xs : List AV) (vs : Array Value) : xs.length = vs.size → (∀ (i : Nat) (x : AV) (v : Value), xs[i]? = some x → vs[i]? = some v → FR w A x v) → FR w A (.tup xs) (.tuple vs)
  | nil : FR w A .nil (.slice none 0 0)
  | e0 (a) : FR w A .e0 (.slice a 0 0)
  | fz0 (a cap) : FR w A (.fz []) (.slice a 0 cap)
  | fz (xs : List AV) (c off cap n : Nat) (arr : Array Value) (T : TypeId) (fr : Nat × Nat) : w.heap[c]? = some (.cells arr T fr) → ¬ A c → xs.length ≤ cap → off + xs.length * n ≤ arr.size →
      (∀ (i : Nat) (x : AV), xs[i]? = some x → x.cells.length = n) →
      (∀ (j : Nat) (v : Value), j < xs.length * n → arr[off + j]? = some v → v.oneCell' = true) →
      (∀ (i : Nat) (x : AV) (j : Nat) (y : AV) (v : Value), xs[i]? = some x → x.cells[j]? = some y → arr[off + i * n + j]? = some v → FR w A y v) →
      FR w A (.fz xs) (.slice (some ⟨c, off, none⟩) xs.length cap)
  | fe (x : AV) (off c o : Nat) (arr : Array Value) (T : TypeId) (fr : Nat × Nat) : w.heap[c]? = some (.cells arr T fr) → ¬ A c → o + x.cells.length ≤ arr.size →
      (∀ (j : Nat) (v : Value), j < x.cells.length → arr[o + j]? = some v → v.oneCell' = true) →
      (∀ (j : Nat) (y : AV) (v : Value), x.cells[j]? = some y → arr[o + j]? = some v → FR w A y v) →
      FR w A (.fe x off) (.pointer (some ⟨c, o + off, none⟩))
  | fn (f : FuncId) (xs : List AV) (vs : Array Value) : xs.length = vs.size → (∀ (i : Nat) (x : AV) (v : Value), xs[i]? = some x → vs[i]? = some v → FR w A x v) → FR w A (.fn f xs) (.func (.func f) #[] vs)
  | noerr : FR w A (.errv false) .nilIface
  | err (t v) : FR w A (.errv true) (.iface t v)
  | nilp : FR w A .nilp (.pointer none)

structure RefOK (w : World) (φ : Phi) (b : Blk) (id off len : Nat) (v : Value) : Prop where
  out : ∃ loc a cap, φ id = some loc ∧ v = .slice a len cap ∧ off + len ≤ b.el.length ∧ len ≤ cap ∧ b.el.length ≤ off + cap ∧
    (match loc with
     | .virt => b.el = [] ∧ (b.fix = false → cap = 0)
     | .at_ c b0 => cap = 0 ∨ (a = some ⟨c, b0 + off * b.sz, none⟩ ∧ b0 + (off + cap) * b.sz ≤ bsz w c))

/-- A value against the heap. -/
inductive R (w : World) (H : Heap) (φ : Phi) (A : Avoid) : AV → Value → Prop
  | fr (x v) : FR w A x v → R w H φ A x v
  | agg (xs : List AV) (vs : Array Value) : xs.length = vs.size → (∀ (j : Nat) (v : Value), vs[j]? = some v → v.oneCell' = true) → (∀ (i : Nat) (x : AV) (v : Value), xs[i]? = some x → vs[i]? = some v → R w H φ A x v) → R w H φ A (.agg xs) (.agg vs)
  | tup (xs : List AV) (vs : Array Value) : xs.length = vs.size → (∀ (i : Nat) (x : AV) (v : Value), xs[i]? = some x → vs[i]? = some v → R w H φ A x v) → R w H φ A (.tup xs) (.tuple vs)
  | fn (f : FuncId) (xs : List AV) (vs : Array Value) : xs.length = vs.size → (∀ (i : Nat) (x : AV) (v : Value), xs[i]? = some x → vs[i]? = some v → R w H φ A x v) → R w H φ A (.fn f xs) (.func (.func f) #[] vs)
  | ref (id ver off len : Nat) (v : Value) : ver < H.st → (∃ a l c, v = .slice a l c) → (∀ b, H.blk id ver = some b → RefOK w φ b id off len v) → R w H φ A (.ref id ver off len) v
  | ptr (id ver idx off : Nat) (v : Value) : ver < H.st → (∃ a, v = .pointer a) → (∀ b, H.blk id ver = some b → ∃ c b0, φ id = some (.at_ c b0) ∧ v = .pointer (some ⟨c, b0 + idx * b.sz + off, none⟩)) →
      R w H φ A (.ptr id ver idx off) v

structure BlkOK (w : World) (H : Heap) (φ : Phi) (A : Avoid) (b : Blk) (loc : Loc) : Prop where
  ver : b.ver < H.st
  sized : ∀ (i : Nat) (x : AV), b.el[i]? = some x → x.cells.length = b.sz
  virt : loc = .virt → b.el = []
  here : ∀ c b0, loc = .at_ c b0 → ∃ arr T fr, w.heap[c]? = some (.cells arr T fr) ∧ (∀ j, j < arr.size → ¬ (fr.1 ≤ j ∧ j < fr.2)) ∧ b0 + b.el.length * b.sz ≤ arr.size ∧
    ∀ (i : Nat) (x : AV) (j : Nat) (y : AV) (v : Value), b.el[i]? = some x → x.cells[j]? = some y → arr[b0 + i * b.sz + j]? = some v → R w H φ A y v ∧ v.oneCell' = true

structure St (w : World) (H : Heap) (φ : Phi) (A : Avoid) : Prop where
  inj : ∀ id id' c b b', φ id = some (.at_ c b) → φ id' = some (.at_ c b') → id = id'
  own : ∀ c, Ow φ c → A c
  bnd : ∀ c, A c → c < w.heap.size
  blk : ∀ id loc, φ id = some loc → ∃ b, H.get id = some b ∧ BlkOK w H φ A b loc

/-- What a piece of code does to the machine's memory, seen from outside. -/
structure Post (w : World) (φ : Phi) (w' : World) (φ' : Phi) : Prop where
  os : w'.os = w.os
  tape : w'.tape = w.tape
  output : w'.output = w.output
  size : w.heap.size ≤ w'.heap.size
  kept : ∀ c, c < w.heap.size → ¬ Ow φ c → w'.heap[c]? = w.heap[c]?
  bsz : ∀ c, c < w.heap.size → bsz w' c = bsz w c
  own : ∀ c, Ow φ' c → Ow φ c ∨ w.heap.size ≤ c

theorem Post.refl (w : World) (φ : Phi) : Post w φ w φ := ⟨rfl, rfl, rfl, Nat.le_refl _, fun _ _ _ => rfl, fun _ _ => rfl, fun _ h => .inl h⟩

theorem Post.trans {w w1 w2 : World} {φ φ1 φ2 : Phi} (h : Post w φ w1 φ1) (k : Post w1 φ1 w2 φ2) : Post w φ w2 φ2 where
  os := k.os.trans h.os
  tape := k.tape.trans h.tape
  output := k.output.trans h.output
  size := Nat.le_trans h.size k.size
  kept c hc hn := by
    rw [k.kept c (Nat.lt_of_lt_of_le hc h.size) (fun ho => by rcases h.own c ho with h1 | h1; exact hn h1; omega)]
    exact h.kept c hc hn
  bsz c hc := (k.bsz c (Nat.lt_of_lt_of_le hc h.size)).trans (h.bsz c hc)
  own c hc := by
    rcases k.own c hc with h1 | h1
    · exact h.own c h1
    · exact .inr (Nat.le_trans h.size h1)

/-! Small facts on the abstract heap. -/
theorem Heap.blk_get {H : Heap} {id ver : Nat} {b : Blk} (h : H.blk id ver = some b) : H.get id = some b ∧ b.ver = ver := by
  unfold Heap.blk at h
  unfold Heap.get
  split at h
  · rename_i b' hb
    split at h
    · simp at h; subst h; simp [*]
    · simp at h
  · simp at h

theorem Heap.blk_of_get {H : Heap} {id : Nat} {b : Blk} (h : H.get id = some b) : H.blk id b.ver = some b := by
  unfold Heap.get at h
  unfold Heap.blk
  cases hb : H.bs[id]? with
  | none => simp [hb] at h
  | some o => cases o with
    | none => simp [hb] at h
    | some b' => simp [hb] at h; subst h; simp

theorem Heap.get_lt {H : Heap} {id : Nat} {b : Blk} (h : H.get id = some b) : id < H.bs.length := by
  unfold Heap.get at h
  cases hb : H.bs[id]? with
  | none => simp [hb] at h
  | some o => exact (List.getElem?_eq_some_iff.1 hb).1

/-! Frozen values do not hang on the rest. -/
theorem FR.mono {w w' : World} {A A' : Avoid} (hk : ∀ c arr T fr, w.heap[c]? = some (.cells arr T fr) → ¬ A c → (∃ fr', w'.heap[c]? = some (.cells arr T fr')) ∧ ¬ A' c)
    {x : AV} {v : Value} (h : FR w A x v) : FR w' A' x v := by
  induction h with
  | undef v => exact .undef v
  | int k n => exact .int k n
  | bool b => exact .bool b
  | str s => exact .str s
  | agg xs vs hl ho _ ih => exact .agg xs vs hl ho ih
  | tup xs vs hl _ ih => exact .tup xs vs hl ih
  | nil => exact .nil
  | e0 a => exact .e0 a
  | fz0 a cap => exact .fz0 a cap
  | fz xs c off cap n arr T fr hc hA hcap hsz hn ho _ ih => obtain ⟨⟨fr', h1⟩, h2⟩ := hk c arr T fr hc hA; exact .fz xs c off cap n arr T fr' h1 h2 hcap hsz hn ho ih
  | fe x off c o arr T fr hc hA hsz ho _ ih => obtain ⟨⟨fr', h1⟩, h2⟩ := hk c arr T fr hc hA; exact .fe x off c o arr T fr' h1 h2 hsz ho ih
  | fn f xs vs hl _ ih => exact .fn f xs vs hl ih
  | noerr => exact .noerr
  | err t v => exact .err t v
  | nilp => exact .nilp

theorem FR.shrink {w : World} {A A' : Avoid} (hA : ∀ c, A' c → A c) {x : AV} {v : Value} (h : FR w A x v) : FR w A' x v :=
  h.mono fun c _arr _T fr hc hn => ⟨⟨fr, hc⟩, fun hc' => hn (hA c hc')⟩

/-- How states may follow one another so that values keep their meaning. -/
structure Evo (w : World) (H : Heap) (φ : Phi) (A : Avoid) (w' : World) (H' : Heap) (φ' : Phi) (A' : Avoid) : Prop where
  fz : ∀ c arr T fr, w.heap[c]? = some (.cells arr T fr) → ¬ A c → (∃ fr', w'.heap[c]? = some (.cells arr T fr')) ∧ ¬ A' c
  st : H.st ≤ H'.st
  ids : ∀ id b', H'.get id = some b' → b'.ver < H.st → ∃ b, H.get id = some b ∧ b.ver = b'.ver ∧ b'.sz = b.sz ∧ b'.fix = b.fix ∧ b'.el.length = b.el.length ∧
    ∀ loc, φ id = some loc → φ' id = some loc
  sz : ∀ c, Ow φ c → bsz w' c = bsz w c

theorem Evo.refl (w : World) (H : Heap) (φ : Phi) (A : Avoid) : Evo w H φ A w H φ A :=
  ⟨fun _c _arr _T fr h hn => ⟨⟨fr, h⟩, hn⟩, Nat.le_refl _, fun _id b h _ => ⟨b, h, rfl, rfl, rfl, rfl, fun _ h => h⟩, fun _ _ => rfl⟩

theorem R.mono {w w' : World} {H H' : Heap} {φ φ' : Phi} {A A' : Avoid} (e : Evo w H φ A w' H' φ' A') {x : AV} {v : Value} (h : R w H φ A x v) : R w' H' φ' A' x v := by
  induction h with
  | fr x v h => exact .fr x v (h.mono e.fz)
  | agg xs vs hl ho _ ih => exact .agg xs vs hl ho ih
  | tup xs vs hl _ ih => exact .tup xs vs hl ih
  | fn f xs vs hl _ ih => exact .fn f xs vs hl ih
  | ref id ver off len v hv hs0 hb =>
    refine .ref id ver off len v (Nat.lt_of_lt_of_le hv e.st) hs0 fun b' hb' => ?_
    obtain ⟨hg, hver⟩ := Heap.blk_get hb'
    obtain ⟨b, hg0, hv0, hs, hf, hl, hφ⟩ := e.ids id b' hg (by omega)
    have hbk : H.blk id ver = some b := by have := Heap.blk_of_get hg0; rw [hv0, hver] at this; exact this
    obtain ⟨loc, a, cap, h1, h2, h3, h4, h5, h6⟩ := (hb b hbk).out
    refine ⟨loc, a, cap, hφ loc h1, h2, by omega, h4, by omega, ?_⟩
    cases loc with
    | virt => simp only at h6 ⊢; exact ⟨List.eq_nil_of_length_eq_zero (by rw [hl, h6.1]; rfl), fun h => h6.2 (by rw [← hf]; exact h)⟩
    | at_ c b0 =>
      simp only at h6 ⊢
      rw [hs, e.sz c ⟨id, b0, h1⟩]
      exact h6
  | ptr id ver idx off v hv hs0 hb =>
    refine .ptr id ver idx off v (Nat.lt_of_lt_of_le hv e.st) hs0 fun b' hb' => ?_
    obtain ⟨hg, hver⟩ := Heap.blk_get hb'
    obtain ⟨b, hg0, hv0, hs, _, _, hφ⟩ := e.ids id b' hg (by omega)
    have hbk : H.blk id ver = some b := by have := Heap.blk_of_get hg0; rw [hv0, hver] at this; exact this
    obtain ⟨c, b0, h1, h2⟩ := hb b hbk
    exact ⟨c, b0, hφ _ h1, by rw [hs]; exact h2⟩

theorem Evo.trans {w w1 w2 : World} {H H1 H2 : Heap} {φ φ1 φ2 : Phi} {A A1 A2 : Avoid} (h : Evo w H φ A w1 H1 φ1 A1) (k : Evo w1 H1 φ1 A1 w2 H2 φ2 A2)
    (hst : ∀ c, Ow φ c → bsz w2 c = bsz w c) : Evo w H φ A w2 H2 φ2 A2 where
  fz c arr T fr hc hn := by
    obtain ⟨⟨fr1, h1⟩, h2⟩ := h.fz c arr T fr hc hn
    exact k.fz c arr T fr1 h1 h2
  st := Nat.le_trans h.st k.st
  ids id b2 hg hv := by
    obtain ⟨b1, g1, e1, e2, e3, e4, e5⟩ := k.ids id b2 hg (Nat.lt_of_lt_of_le hv h.st)
    obtain ⟨b, g, f1, f2, f3, f4, f5⟩ := h.ids id b1 g1 (by omega)
    exact ⟨b, g, f1.trans e1, e2.trans f2, e3.trans f3, e4.trans f4, fun loc hl => e5 loc (f5 loc hl)⟩
  sz := hst

/-! Reading a value's relation. -/
section inv
variable {w : World} {H : Heap} {φ : Phi} {A : Avoid}
theorem R.int_inv {k : IntKind} {n : Int} {v : Value} (h : R w H φ A (.int k n) v) : v = .int k n := by cases h with | fr _ _ h => cases h; rfl
theorem R.bool_inv {b : Bool} {v : Value} (h : R w H φ A (.bool b) v) : v = .bool b := by cases h with | fr _ _ h => cases h; rfl
theorem R.str_inv {s : List UInt8} {v : Value} (h : R w H φ A (.str s) v) : ∃ b : ByteArray, v = .string b ∧ b.data.toList = s := by
  cases h with | fr _ _ h => cases h with | str s => exact ⟨s, rfl, rfl⟩
theorem R.agg_inv {xs : List AV} {v : Value} (h : R w H φ A (.agg xs) v) : ∃ vs : Array Value, v = .agg vs ∧ xs.length = vs.size ∧ (∀ (j : Nat) (v : Value), vs[j]? = some v → v.oneCell' = true) ∧ ∀ (i : Nat) (x : AV) (v : Value), xs[i]? = some x → vs[i]? = some v → R w H φ A x v := by
  cases h with
  | fr _ _ h => cases h with | agg xs vs hl ho h => exact ⟨vs, rfl, hl, ho, fun i x v hx hv => .fr _ _ (h i x v hx hv)⟩
  | agg xs vs hl ho h => exact ⟨vs, rfl, hl, ho, h⟩
theorem R.tup_inv {xs : List AV} {v : Value} (h : R w H φ A (.tup xs) v) : ∃ vs : Array Value, v = .tuple vs ∧ xs.length = vs.size ∧ ∀ (i : Nat) (x : AV) (v : Value), xs[i]? = some x → vs[i]? = some v → R w H φ A x v := by
  cases h with
  | fr _ _ h => cases h with | tup xs vs hl h => exact ⟨vs, rfl, hl, fun i x v hx hv => .fr _ _ (h i x v hx hv)⟩
  | tup xs vs hl h => exact ⟨vs, rfl, hl, h⟩
theorem R.fn_inv {f : FuncId} {xs : List AV} {v : Value} (h : R w H φ A (.fn f xs) v) :
    ∃ vs : Array Value, v = .func (.func f) #[] vs ∧ xs.length = vs.size ∧ ∀ (i : Nat) (x : AV) (v : Value), xs[i]? = some x → vs[i]? = some v → R w H φ A x v := by
  cases h with
  | fr _ _ h => cases h with | fn f xs vs hl h => exact ⟨vs, rfl, hl, fun i x v hx hv => .fr _ _ (h i x v hx hv)⟩
  | fn f xs vs hl h => exact ⟨vs, rfl, hl, h⟩
theorem R.fz_inv {xs : List AV} {v : Value} (h : R w H φ A (.fz xs) v) : FR w A (.fz xs) v := by cases h with | fr _ _ h => exact h
theorem R.fe_inv {x : AV} {o : Nat} {v : Value} (h : R w H φ A (.fe x o) v) : FR w A (.fe x o) v := by cases h with | fr _ _ h => exact h
theorem R.nil_inv {v : Value} (h : R w H φ A .nil v) : v = .slice none 0 0 := by cases h with | fr _ _ h => cases h; rfl
theorem R.e0_inv {v : Value} (h : R w H φ A .e0 v) : ∃ a, v = .slice a 0 0 := by cases h with | fr _ _ h => cases h with | e0 a => exact ⟨a, rfl⟩
theorem R.ref_inv {id ver off len : Nat} {v : Value} (h : R w H φ A (.ref id ver off len) v) : ver < H.st ∧ (∃ a l c, v = .slice a l c) ∧ ∀ b, H.blk id ver = some b → RefOK w φ b id off len v := by
  cases h with
  | fr _ _ h => cases h
  | ref _ _ _ _ _ h1 h0 h2 => exact ⟨h1, h0, h2⟩
theorem R.ptr_inv {id ver idx off : Nat} {v : Value} (h : R w H φ A (.ptr id ver idx off) v) :
    ver < H.st ∧ (∃ a, v = .pointer a) ∧ ∀ b, H.blk id ver = some b → ∃ c b0, φ id = some (.at_ c b0) ∧ v = .pointer (some ⟨c, b0 + idx * b.sz + off, none⟩) := by
  cases h with
  | fr _ _ h => cases h
  | ptr _ _ _ _ _ h1 h0 h2 => exact ⟨h1, h0, h2⟩
theorem R.own_inv {sz : Nat} {xs : List AV} {v : Value} (h : R w H φ A (.own sz xs) v) : False := by cases h with | fr _ _ h => cases h
theorem R.optr_inv {sz : Nat} {x : AV} {v : Value} (h : R w H φ A (.optr sz x) v) : False := by cases h with | fr _ _ h => cases h
theorem R.errv_inv {b : Bool} {v : Value} (h : R w H φ A (.errv b) v) : (b = false ∧ v = .nilIface) ∨ (b = true ∧ ∃ t u, v = .iface t u) := by
  cases h with | fr _ _ h => cases h with
    | noerr => exact .inl ⟨rfl, rfl⟩
    | err t u => exact .inr ⟨rfl, t, u, rfl⟩

/-- The cells of a value. -/
theorem R.cells {x : AV} {v : Value} (h : R w H φ A x v) (hx : x ≠ .undef) : x.cells.length = v.cells.size ∧ ∀ (j : Nat) (y : AV) (u : Value), x.cells[j]? = some y → v.cells[j]? = some u → R w H φ A y u := by
  have single : ∀ {x : AV} {v : Value}, R w H φ A x v → x.cells = [x] → v.cells = #[v] →
      x.cells.length = v.cells.size ∧ ∀ (j : Nat) (y : AV) (u : Value), x.cells[j]? = some y → v.cells[j]? = some u → R w H φ A y u := by
    intro x v h h1 h2
    rw [h1, h2]
    refine ⟨rfl, fun j y u hy hu => ?_⟩
    cases j with
    | zero => simp at hy hu; subst hy; subst hu; exact h
    | succ j => simp at hy
  cases x with
  | undef => exact absurd rfl hx
  | agg xs => obtain ⟨vs, rfl, hl, _, hp⟩ := h.agg_inv; exact ⟨hl, hp⟩
  | int k n => have := h.int_inv; subst this; exact single h rfl rfl
  | bool b => have := h.bool_inv; subst this; exact single h rfl rfl
  | str s => obtain ⟨b, rfl, _⟩ := h.str_inv; exact single h rfl rfl
  | tup xs => obtain ⟨vs, rfl, _⟩ := h.tup_inv; exact single h rfl rfl
  | nil => have := h.nil_inv; subst this; exact single h rfl rfl
  | e0 => obtain ⟨a, rfl⟩ := h.e0_inv; exact single h rfl rfl
  | fz xs => have := h.fz_inv; cases this <;> exact single h rfl rfl
  | fe x o => have := h.fe_inv; cases this; exact single h rfl rfl
  | fn f xs => obtain ⟨vs, rfl, _⟩ := h.fn_inv; exact single h rfl rfl
  | errv b => rcases h.errv_inv with ⟨rfl, rfl⟩ | ⟨rfl, t, u, rfl⟩ <;> exact single h rfl rfl
  | nilp => cases h with | fr _ _ h => cases h; exact single (.fr _ _ .nilp) rfl rfl
  | own sz xs => exact h.own_inv.elim
  | optr sz x => exact h.optr_inv.elim
  | ref id ver off len => obtain ⟨_, ⟨a, l, c, rfl⟩, _⟩ := h.ref_inv; exact single h rfl rfl
  | ptr id ver idx off => obtain ⟨_, ⟨a, rfl⟩, _⟩ := h.ptr_inv; exact single h rfl rfl
theorem R.stor {x : AV} {v : Value} (h : R w H φ A x v) (hx : stor1 x = true) : v.oneCell' = true := by
  cases x with
  | undef => simp [stor1] at hx
  | agg xs => simp [stor1] at hx
  | tup xs => simp [stor1] at hx
  | own sz xs => simp [stor1] at hx
  | optr sz x => simp [stor1] at hx
  | int k n => have := h.int_inv; subst this; rfl
  | bool b => have := h.bool_inv; subst this; rfl
  | str s => obtain ⟨b, rfl, _⟩ := h.str_inv; rfl
  | nil => have := h.nil_inv; subst this; rfl
  | e0 => obtain ⟨a, rfl⟩ := h.e0_inv; rfl
  | fz xs => have := h.fz_inv; cases this <;> rfl
  | fe x o => have := h.fe_inv; cases this; rfl
  | fn f xs => obtain ⟨vs, rfl, _⟩ := h.fn_inv; rfl
  | errv b => rcases h.errv_inv with ⟨rfl, rfl⟩ | ⟨rfl, t, u, rfl⟩ <;> rfl
  | nilp => cases h with | fr _ _ h => cases h; rfl
  | ref id ver off len => obtain ⟨_, ⟨a, l, c, rfl⟩, _⟩ := h.ref_inv; rfl
  | ptr id ver idx off => obtain ⟨_, ⟨a, rfl⟩, _⟩ := h.ptr_inv; rfl
theorem R.ones {x : AV} {v : Value} (h : R w H φ A x v) (hx : storA x = true) : ∀ (j : Nat) (u : Value), v.cells[j]? = some u → u.oneCell' = true := by
  cases x with
  | agg xs => obtain ⟨vs, rfl, _, ho, _⟩ := h.agg_inv; exact ho
  | _ =>
    intro j u hu
    have h1 := h.stor (by simpa [storA] using hx)
    have : v.cells = #[v] := by cases v <;> first | rfl | simp [Value.oneCell'] at h1
    rw [this] at hu
    cases j with
    | zero => simp at hu; subst hu; exact h1
    | succ j => simp at hu
end inv

end Go.VS
