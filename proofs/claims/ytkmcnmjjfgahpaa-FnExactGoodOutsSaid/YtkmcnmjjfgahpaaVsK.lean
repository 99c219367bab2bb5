/-
  VS, part 11: conversions; all quiet operations in one theorem.
-/
import Derived.Test.YtkmcnmjjfgahpaaVsJ
namespace Go.VS

section ops
variable {P : Program} {E : TEnv} (hE : ∀ t ti, E t = some ti → TyOK P t ti)
variable {w : World} {G : Heap} {φ : Phi} {A : Avoid}

/-- What the elements of a slice hold: where they lie. -/
structure ElemsAt (w : World) (G : Heap) (φ : Phi) (A : Avoid) (xs : List AV) (v : Value) (sz : Nat) : Prop where
  out : (xs = [] ∧ ∃ a cap, v = .slice a 0 cap) ∨ ∃ c o cap arr T fr, v = .slice (some ⟨c, o, none⟩) xs.length cap ∧ w.heap[c]? = some (.cells arr T fr) ∧ o + xs.length * sz ≤ arr.size ∧
    (∀ (i : Nat) (x : AV), xs[i]? = some x → x.cells.length = sz) ∧
    ∀ (i : Nat) (x : AV) (j : Nat) (y : AV) (u : Value), xs[i]? = some x → x.cells[j]? = some y → arr[o + i * sz + j]? = some u → R w G φ A y u ∧ u.oneCell' = true

theorem szAll_get {sz : Nat} {xs : List AV} (h : szAll sz xs = true) {i : Nat} {x : AV} (hx : xs[i]? = some x) : x.cells.length = sz := by
  have := List.all_eq_true.1 h x (List.mem_of_getElem? hx)
  simpa using this

theorem div_lt_of {k sz n : Nat} (hk : k < n * sz) (hs : 0 < sz) : k / sz < n := (Nat.div_lt_iff_lt_mul hs).2 hk

/-- The elements of what is appended, copied or turned into a text: never of a text. -/
theorem elems_at {H0 : Heap} (hst : St w G φ A) (hX : Ext H0 G) {x : AV} {v : Value} {xs : List AV} {sz : Nat} (hx : R w G φ A x v) (h : elemsOf H0 x = some xs) (hs : szAll sz xs = true) (hn : ∀ s, x ≠ .str s) :
    ElemsAt w G φ A xs v sz := by
  cases x with
  | nil => simp [elemsOf] at h; subst h; have := hx.nil_inv; subst this; exact ⟨.inl ⟨rfl, _, _, rfl⟩⟩
  | e0 => simp [elemsOf] at h; subst h; obtain ⟨a, rfl⟩ := hx.e0_inv; exact ⟨.inl ⟨rfl, _, _, rfl⟩⟩
  | fz ys =>
    simp only [elemsOf, Option.some.injEq] at h; subst h
    by_cases hne : ys = []
    · subst hne
      have := hx.fz_inv
      cases this with
      | fz0 a cap => exact ⟨.inl ⟨rfl, _, _, rfl⟩⟩
      | fz => exact ⟨.inl ⟨rfl, _, _, rfl⟩⟩
    · obtain ⟨c, off, cap, n, arr, T, fr, rfl, h1, h2, h3, h4, h5, h6, h7⟩ := fz_inv hx.fz_inv hne
      have hm : n = sz := by
        obtain ⟨y, ys', rfl⟩ := List.exists_cons_of_ne_nil hne
        exact (h5 0 y rfl).symm.trans (szAll_get (i := 0) hs rfl)
      subst hm
      refine ⟨.inr ⟨c, off, cap, arr, T, fr, rfl, h1, h4, h5, fun i x j y u hx hy hu => ⟨.fr _ _ (h7 i x j y u hx hy hu), ?_⟩⟩⟩
      have hi : i < ys.length := (List.getElem?_eq_some_iff.1 hx).1
      have hj : j < x.cells.length := (List.getElem?_eq_some_iff.1 hy).1
      have hle := mul_lt_le (n := n) hi
      have := h5 i x hx
      exact h6 (i * n + j) u (by omega) (by rw [← hu]; congr 1; omega)
  | ref id ver off len =>
    simp only [elemsOf] at h
    split at h
    · rename_i b hb
      split at h
      · rename_i hle
        simp only [Option.some.injEq] at h
        have hlen : xs.length = len := by rw [← h]; simp [subL]; omega
        by_cases hl0 : len = 0
        · subst hl0
          obtain ⟨hv, _, hr⟩ := hx.ref_inv
          obtain ⟨loc, a0, cap, k1, rfl, _⟩ := (hr b (hX.blk hb)).out
          exact ⟨.inl ⟨List.eq_nil_of_length_eq_zero hlen, _, _, rfl⟩⟩
        · obtain ⟨c, b0, cap, hφ, rfl, k1, k2, k3, k4⟩ := ref_at hx (hX.blk hb) (by omega)
          obtain ⟨b', hb', hok⟩ := hst.blk id _ hφ
          rw [(Heap.blk_get (hX.blk hb)).1] at hb'
          simp only [Option.some.injEq] at hb'; subst hb'
          obtain ⟨arr, T, fr, m1, _, m3, m4⟩ := hok.here c b0 rfl
          have hget : ∀ (i : Nat) (x : AV), xs[i]? = some x → b.el[off + i]? = some x := by
            intro i x hi
            rw [← h] at hi
            simp only [subL, List.getElem?_take, List.getElem?_drop] at hi
            split at hi
            · exact hi
            · simp at hi
          have hbs : b.sz = sz := by
            obtain ⟨y, ys', rfl⟩ := List.exists_cons_of_ne_nil (l := xs) (by intro h0; rw [h0] at hlen; simp at hlen; omega)
            exact (hok.sized _ _ (hget 0 y rfl)).symm.trans (szAll_get (i := 0) hs rfl)
          subst hbs
          refine ⟨.inr ⟨c, b0 + off * b.sz, cap, arr, T, fr, by rw [hlen], m1, ?_, fun i x hi => szAll_get hs hi, fun i x j y u hi hy hu => m4 (off + i) x j y u (hget i x hi) hy (by rw [← hu]; congr 1; rw [Nat.add_mul]; omega)⟩⟩
          rw [hlen]
          have : off * b.sz + len * b.sz ≤ b.el.length * b.sz := by rw [← Nat.add_mul]; exact Nat.mul_le_mul_right _ hle
          omega
      · simp at h
    · simp at h
  | str s => exact absurd rfl (hn s)
  | _ => simp [elemsOf] at h

/-- The cells that lie there. -/
theorem ElemsAt.cells {xs : List AV} {v : Value} {sz : Nat} (h : ElemsAt w G φ A xs v sz) (hs : 0 < sz) : ∃ cs : Array Value, (Builtin.firstCells sz xs.length v).run P w = .ok cs w ∧ cs.size = xs.length * sz ∧
    (∀ (i : Nat) (x : AV) (j : Nat) (y : AV) (u : Value), xs[i]? = some x → x.cells[j]? = some y → cs[i * sz + j]? = some u → R w G φ A y u ∧ u.oneCell' = true) ∧ ∀ u ∈ cs.toList, u.oneCell' = true := by
  rcases h.out with ⟨rfl, a, cap, rfl⟩ | ⟨c, o, cap, arr, T, fr, rfl, h1, h2, h3, h4⟩
  · refine ⟨#[], ?_, by simp, by simp, by simp⟩
    cases a with
    | none => simp [Builtin.firstCells]
    | some a => simp [Builtin.firstCells, loadCells, loadCellsFrom]
  · refine ⟨arr.extract o (o + xs.length * sz), by simp [Builtin.firstCells, run_loadCells_at P h1 o (xs.length * sz) h2], by simp; omega, fun i x j y u hx hy hu => ?_, fun u hu => ?_⟩
    · simp only [Array.getElem?_extract] at hu
      split at hu
      · exact h4 i x j y u hx hy (by rw [← hu]; congr 1; omega)
      · simp at hu
    · obtain ⟨k, hk⟩ := List.getElem?_of_mem hu
      rw [Array.getElem?_toList, Array.getElem?_extract] at hk
      split at hk
      · rename_i hk2
        have hk3 : k < xs.length * sz := by omega
        have hq := div_lt_of hk3 hs
        have hr := Nat.mod_lt k hs
        have hx : xs[k / sz]? = some (xs[k / sz]) := List.getElem?_eq_getElem hq
        have hxl := h3 _ _ hx
        have hdm : k / sz * sz + k % sz = k := by rw [Nat.mul_comm]; exact Nat.div_add_mod k sz
        have e : o + k / sz * sz + k % sz = o + k := by omega
        exact (h4 (k / sz) _ (k % sz) _ u hx (List.getElem?_eq_getElem (by omega)) (by rw [e]; exact hk)).2
      · simp at hk

theorem run_bytes (f : Value → ByteArray → Sem (ForInStep ByteArray)) (hf : ∀ n s, (f (.int .u8 n) s).run P w = .ok (.yield (s.push (UInt8.ofNat n.toNat))) w) (l : List Int) : ∀ (acc : ByteArray),
    (forIn (l.map fun n => Value.int .u8 n) acc f).run P w = .ok ⟨(acc.data.toList ++ l.map fun n => UInt8.ofNat n.toNat).toArray⟩ w := by
  induction l with
  | nil => intro acc; simp
  | cons n l ih =>
    intro acc
    simp only [List.map_cons, List.forIn_cons, Sem.run_bind, hf, Result.andThen_ok]
    rw [ih]
    congr 2
    apply Array.ext'
    simp [ByteArray.push]

theorem bytesOf_map {xs : List AV} {l : List UInt8} (h : bytesOf xs = some l) : ∃ ns : List Int, xs = ns.map (fun n => AV.int .u8 n) ∧ l = ns.map fun n => UInt8.ofNat n.toNat := by
  induction xs generalizing l with
  | nil => simp [bytesOf] at h; subst h; exact ⟨[], rfl, rfl⟩
  | cons x xs ih =>
    cases x with
    | int k n =>
      cases k <;> simp only [bytesOf, Option.map_eq_some_iff, reduceCtorEq] at h
      obtain ⟨l', hl, rfl⟩ := h
      obtain ⟨ns, rfl, rfl⟩ := ih hl
      exact ⟨n :: ns, rfl, rfl⟩
    | _ => simp [bytesOf] at h

theorem str_of (l : List UInt8) (w : World) (A : Avoid) : FR w A (.str l) (.string ⟨l.toArray⟩) := by
  have := FR.str (w := w) (A := A) ⟨l.toArray⟩
  simpa using this

include hE in
theorem q_toString {H0 : Heap} (hst : St w G φ A) (hX : Ext H0 G) {x : AV} {v : Value} {xs : List AV} {l : List UInt8} (hx : R w G φ A x v) (h : elemsOf H0 x = some xs) (hb : bytesOf xs = some l) (hn : ∀ s, x ≠ .str s) :
    ∃ u, (Conv.bytesToString v).run P w = .ok u w ∧ R w G φ A (.str l) u := by
  have _ := @hE
  obtain ⟨ns, rfl, rfl⟩ := bytesOf_map hb
  have hs : szAll 1 (ns.map fun n => AV.int .u8 n) = true := by simp [szAll, AV.cells]
  have hel := elems_at hst hX hx h hs hn
  refine ⟨.string ⟨(ns.map fun n => UInt8.ofNat n.toNat).toArray⟩, ?_, .fr _ _ (str_of _ _ _)⟩
  rcases hel.out with ⟨he, a, cap, rfl⟩ | ⟨c, o, cap, arr, T, fr, rfl, h1, h2, h3, h4⟩
  · have : ns = [] := by simpa using he
    subst this
    cases a with
    | none => simp [Conv.bytesToString]; rfl
    | some a => simp [Conv.bytesToString, loadCells, loadCellsFrom]; rfl
  · simp only [List.length_map, Nat.mul_one] at h2 ⊢
    have hcs : (arr.extract o (o + ns.length)).toList = ns.map fun n => Value.int .u8 n := by
      apply List.ext_getElem?
      intro k
      rw [Array.getElem?_toList, Array.getElem?_extract]
      by_cases hk : k < ns.length
      · rw [if_pos (by omega)]
        have hlt : o + k < arr.size := by omega
        rw [Array.getElem?_eq_getElem hlt]
        have := (h4 k (.int .u8 ns[k]) 0 (.int .u8 ns[k]) _ (by simp [hk]) rfl (by simp; exact Array.getElem?_eq_getElem hlt)).1.int_inv
        rw [this]; simp [hk]
      · rw [if_neg (by omega), List.getElem?_map, List.getElem?_eq_none (by omega)]; rfl
    simp only [Conv.bytesToString, Sem.run_bind, run_loadCells_at P h1 o ns.length h2, Result.andThen_ok]
    rw [← Array.forIn_toList, hcs, run_bytes _ (fun n s => rfl)]
    simp
end ops
end Go.VS
