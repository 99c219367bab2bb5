/-
  VS, part 7: the quiet operations, one by one, go on.
-/
import Derived.Test.YtkmcnmjjfgahpaaVsF
namespace Go.VS

section ops
variable {P : Program} {E : TEnv} (hE : ∀ t ti, E t = some ti → TyOK P t ti)
variable {w : World} {G : Heap} {φ : Phi} {A : Avoid}

theorem fz_inv {xs : List AV} {v : Value} {A : Avoid} (h : FR w A (.fz xs) v) (hne : xs ≠ []) : ∃ c off cap n arr T fr, v = .slice (some ⟨c, off, none⟩) xs.length cap ∧
    w.heap[c]? = some (.cells arr T fr) ∧ ¬ A c ∧ xs.length ≤ cap ∧ off + xs.length * n ≤ arr.size ∧ (∀ (i : Nat) (x : AV), xs[i]? = some x → x.cells.length = n) ∧
    (∀ (j : Nat) (v : Value), j < xs.length * n → arr[off + j]? = some v → v.oneCell' = true) ∧
    (∀ (i : Nat) (x : AV) (j : Nat) (y : AV) (v : Value), xs[i]? = some x → x.cells[j]? = some y → arr[off + i * n + j]? = some v → FR w A y v) := by
  cases h with
  | fz0 => exact absurd rfl hne
  | fz _ c off cap n arr T fr h1 h2 h3 h4 h5 h6 h7 => exact ⟨c, off, cap, n, arr, T, fr, rfl, h1, h2, h3, h4, h5, h6, h7⟩

theorem mul_lt_le {i n m : Nat} (h : i < m) : i * n + n ≤ m * n := by
  have : (i + 1) * n ≤ m * n := Nat.mul_le_mul_right n h
  rw [Nat.add_mul] at this; omega

/-- An element of a slice that nobody writes. -/
theorem fz_elem {xs : List AV} {v : Value} {A : Avoid} (h : FR w A (.fz xs) v) {i : Nat} {y : AV} (hy : xs[i]? = some y) :
    ∃ c off cap, v = .slice (some ⟨c, off, none⟩) xs.length cap ∧ FR w A (.fe y 0) (.pointer (some ⟨c, off + i * y.cells.length, none⟩)) := by
  obtain ⟨c, off, cap, n, arr, T, fr, rfl, h1, h2, h3, h4, h5, h6, h7⟩ := fz_inv h (by intro h; simp [h] at hy)
  have hn := h5 i y hy
  have hi : i < xs.length := (List.getElem?_eq_some_iff.1 hy).1
  have hle := mul_lt_le (n := n) hi
  refine ⟨c, off, cap, rfl, ?_⟩
  rw [hn]
  have := fe_mk (w := w) (A := A) (x := y) (off := 0) (o := off + i * n) h1 h2 (by omega) (fun j v hj hv => h6 (i * n + j) v (by omega) (by rw [← hv]; congr 1; omega))
    (fun j z v hz hv => h7 i y j z v hy hz hv)
  simpa using this

/-- What is known of a slice in the heap of which an element is asked. -/
theorem ref_at {id ver off len : Nat} {v : Value} (hx : R w G φ A (.ref id ver off len) v) {b : Blk} (hb : G.blk id ver = some b) (hl : 0 < len) :
    ∃ c b0 cap, φ id = some (.at_ c b0) ∧ v = .slice (some ⟨c, b0 + off * b.sz, none⟩) len cap ∧ off + len ≤ b.el.length ∧ len ≤ cap ∧ b.el.length ≤ off + cap ∧ b0 + (off + cap) * b.sz ≤ bsz w c := by
  obtain ⟨hv, _, hr⟩ := hx.ref_inv
  obtain ⟨loc, a, cap, h1, h2, h3, h4, h5, h6⟩ := (hr b hb).out
  cases loc with
  | virt => simp only at h6; rw [h6.1] at h3; simp at h3; omega
  | at_ c b0 =>
    simp only at h6
    rcases h6 with h6 | ⟨rfl, h7⟩
    · omega
    · exact ⟨c, b0, cap, h1, h2, h3, h4, h5, h7⟩

include hE in
theorem q_indexAddr {H0 H' : Heap} (hX : Ext H0 G) {t : TypeId} {x i : AV} {a ai : Value} {z : AV} (hx : R w G φ A x a) (hi : R w G φ A i ai)
    (h : (match (generalizing := false) E t, i with
    | some ti, .int _ n => match ti.und with
      | .sl e => match E e with
        | some te => match (generalizing := false) x with
          | .fz xs => if 0 ≤ n then match xs[n.toNat]? with
              | some y => if y.cells.length = te.sz then some (.fe y 0, H0) else none
              | none => none
            else none
          | .ref id ver off len => match H0.blk id ver with
            | some b => if b.sz = te.sz ∧ 0 ≤ n ∧ n < len ∧ off + len ≤ b.el.length then some (.ptr id ver (off + n.toNat) 0, H0) else none
            | none => none
          | _ => none
        | none => none
      | .ar m e => match E e with
        | some te => if 0 ≤ n ∧ n < m then match (generalizing := false) x with
            | .ptr id ver idx off => match H0.blk id ver with
              | some _ => some (.ptr id ver idx (off + n.toNat * te.sz), H0)
              | none => none
            | .fe y off => some (.fe y (off + n.toNat * te.sz), H0)
            | _ => none
          else none
        | none => none
      | _ => none
    | _, _ => none) = some (z, H')) : ∃ v, (Instr.indexAt t a ai).run P w = .ok v w ∧ R w G φ A z v := by
  split at h
  · rename_i ti k n h1
    have e1 := hi.int_inv; subst e1
    split at h
    · rename_i e hu
      cases h2 : E e with
      | none => simp [h2] at h
      | some te =>
        simp only [h2] at h
        split at h
        · rename_i xs
          split at h
          · rename_i h0
            split at h
            · rename_i y hy
              split at h
              · rename_i hs
                simp only [Option.some.injEq, Prod.mk.injEq] at h
                obtain ⟨rfl, rfl⟩ := h
                obtain ⟨c, off, cap, rfl, hf⟩ := fz_elem hx.fz_inv hy
                have hlt : n.toNat < xs.length := (List.getElem?_eq_some_iff.1 hy).1
                rw [hs] at hf
                exact ⟨_, run_indexAddr_slice (hE _ _ h1) (hE _ _ h2) hu h0 (by omega), .fr _ _ hf⟩
              · simp at h
            · simp at h
          · simp at h
        · rename_i id ver off len
          split at h
          · rename_i b hb
            split at h
            · rename_i hc
              obtain ⟨hs, h0, hl, hle⟩ := hc
              simp only [Option.some.injEq, Prod.mk.injEq] at h
              obtain ⟨rfl, rfl⟩ := h
              obtain ⟨c, b0, cap, hφ, rfl, _⟩ := ref_at hx (hX.blk hb) (by omega)
              refine ⟨_, run_indexAddr_slice (hE _ _ h1) (hE _ _ h2) hu h0 hl, .ptr _ _ _ _ _ hx.ref_inv.1 ⟨_, rfl⟩ fun b' hb' => ⟨c, b0, hφ, ?_⟩⟩
              rw [hX.blk hb] at hb'
              simp only [Option.some.injEq] at hb'; subst hb'
              rw [← hs, Nat.add_mul]
              congr 3; omega
            · simp at h
          · simp at h
        · simp at h
    · rename_i m e hu
      cases h2 : E e with
      | none => simp [h2] at h
      | some te =>
        simp only [h2] at h
        split at h
        · rename_i hc
          split at h
          · rename_i id ver idx off
            split at h
            · rename_i b hb
              simp only [Option.some.injEq, Prod.mk.injEq] at h
              obtain ⟨rfl, rfl⟩ := h
              obtain ⟨hv, _, hp⟩ := hx.ptr_inv
              obtain ⟨c, b0, hφ, rfl⟩ := hp b (hX.blk hb)
              refine ⟨_, run_indexAddr_arr (hE _ _ h1) (hE _ _ h2) hu hc.1 hc.2, .ptr _ _ _ _ _ hv ⟨_, rfl⟩ fun b' hb' => ⟨c, b0, hφ, ?_⟩⟩
              rw [hX.blk hb] at hb'
              simp only [Option.some.injEq] at hb'; subst hb'
              rw [Nat.add_assoc]
            · simp at h
          · rename_i y off
            simp only [Option.some.injEq, Prod.mk.injEq] at h
            obtain ⟨rfl, rfl⟩ := h
            obtain ⟨c, p, arr, T, fr, rfl, k1, k2, k3, k4, k5⟩ := fe_inv hx.fe_inv
            refine ⟨_, run_indexAddr_arr (hE _ _ h1) (hE _ _ h2) hu hc.1 hc.2, .fr _ _ ?_⟩
            rw [Nat.add_assoc]
            exact fe_mk k1 k2 k3 k4 k5
          · simp at h
        · simp at h
    · simp at h
  · simp at h

include hE in
theorem q_load {H0 H' : Heap} (hst : St w G φ A) (hX : Ext H0 G) {t : TypeId} {x : AV} {a : Value} {z : AV} (hx : R w G φ A x a)
    (h : (match E t with
    | some ti => match (generalizing := false) x with
      | .fe y off => (match rdAt ti y off with | some v => some (v, H0) | none => none)
      | .ptr id ver idx off => match H0.blk id ver with
        | some b => match b.el[idx]? with
          | some y => (match rdAt ti y off with | some v => some (v, H0) | none => none)
          | none => none
        | none => none
      | _ => none
    | none => none) = some (z, H')) : ∃ v, (Instr.loadAt t a).run P w = .ok v w ∧ R w G φ A z v := by
  split at h
  · rename_i ti h1
    split at h
    · rename_i y off
      split at h
      · rename_i v hv
        simp only [Option.some.injEq, Prod.mk.injEq] at h
        obtain ⟨rfl, rfl⟩ := h
        obtain ⟨c, p, arr, T, fr, rfl, k1, k2, k3, k4, k5⟩ := fe_inv hx.fe_inv
        obtain ⟨u, hu, hr⟩ := rdAt_load (hE _ _ h1) k1 hv k3 (H := G) (φ := φ) (A := A) (fun j z v hz hv => .fr _ _ (k5 j z v hz hv)) k4
        exact ⟨u, by simp [Instr.loadAt, Instr.sureAddr, hu], hr⟩
      · simp at h
    · rename_i id ver idx off
      split at h
      · rename_i b hb
        split at h
        · rename_i y hy
          split at h
          · rename_i v hv
            simp only [Option.some.injEq, Prod.mk.injEq] at h
            obtain ⟨rfl, rfl⟩ := h
            obtain ⟨_, _, hp⟩ := hx.ptr_inv
            obtain ⟨c, b0, hφ, rfl⟩ := hp b (hX.blk hb)
            obtain ⟨b', hb', hok⟩ := hst.blk id _ hφ
            have := (Heap.blk_get (hX.blk hb)).1
            rw [this] at hb'
            simp only [Option.some.injEq] at hb'; subst hb'
            obtain ⟨arr, T, fr, k1, _, k3, k4⟩ := hok.here c b0 rfl
            have hlt : idx < b.el.length := (List.getElem?_eq_some_iff.1 hy).1
            have hle := mul_lt_le (n := b.sz) hlt
            have hs := hok.sized idx y hy
            have hone : ∀ (j : Nat) (v : Value), j < y.cells.length → arr[b0 + idx * b.sz + j]? = some v → v.oneCell' = true := fun j v hj hv =>
              (k4 idx y j (y.cells[j]) v hy (List.getElem?_eq_getElem hj) hv).2
            obtain ⟨u, hu, hr⟩ := rdAt_load (hE _ _ h1) k1 hv (o := b0 + idx * b.sz) (by omega) (H := G) (φ := φ) (A := A) (fun j z v hz hv => (k4 idx y j z v hy hz hv).1) hone
            exact ⟨u, by simp [Instr.loadAt, Instr.sureAddr, hu], hr⟩
          · simp at h
        · simp at h
      · simp at h
    · simp at h
  · simp at h

include hE in
theorem q_field {t : TypeId} {x : AV} {a : Value} {f : Nat} {z : AV} {H0 H' : Heap} (hx : R w G φ A x a)
    (h : (match (generalizing := false) E t, x with
    | some ti, .agg cs => match ti.und with
      | .st fs => match fs[f]? with
        | some (o, ft) => match E ft with
          | some tf => (match rdAt tf (.agg cs) o with | some v => some (v, H0) | none => none)
          | none => none
        | none => none
      | _ => none
    | _, _ => none) = some (z, H')) : ∃ v, (Instr.field t a f).run P w = .ok v w ∧ R w G φ A z v := by
  split at h
  · rename_i ti cs h1
    split at h
    · rename_i fs hu
      split at h
      · rename_i o ft hf
        split at h
        · rename_i tf h2
          split at h
          · rename_i v hv
            simp only [Option.some.injEq, Prod.mk.injEq] at h
            obtain ⟨rfl, rfl⟩ := h
            obtain ⟨vs, rfl, hl, ho, hp⟩ := hx.agg_inv
            obtain ⟨u, hu2, hr⟩ := rdAt_part (hE _ _ h2) w hv hl hp ho
            obtain ⟨gs, hg, hfs, _⟩ := (hE _ _ h1).und_st w hu
            rw [hfs] at hf
            simp only [List.getElem?_map, Option.map_eq_some_iff, Prod.mk.injEq] at hf
            obtain ⟨g, hg1, hg2, hg3⟩ := hf
            have hg1' : gs[f]? = some g := by simpa using hg1
            exact ⟨u, by simp [Instr.field, hg, hg1', asAgg, hg2, hg3, hu2], hr⟩
          · simp at h
        · simp at h
      · simp at h
    · simp at h
  · simp at h

include hE in
theorem q_index {t : TypeId} {x i : AV} {a ai : Value} {z : AV} {H0 H' : Heap} (hx : R w G φ A x a) (hi : R w G φ A i ai)
    (h : (match (generalizing := false) E t, i with
    | some ti, .int _ n => match (generalizing := false) ti.und, x with
      | .str, .str l => if 0 ≤ n then match l[n.toNat]? with | some b => some (.int .u8 b.toNat, H0) | none => none else none
      | .ar m e, .agg cs => match E e with
        | some te => if 0 ≤ n ∧ n < m then (match rdAt te (.agg cs) (n.toNat * te.sz) with | some v => some (v, H0) | none => none) else none
        | none => none
      | _, _ => none
    | _, _ => none) = some (z, H')) : ∃ v, (Instr.index t a ai).run P w = .ok v w ∧ R w G φ A z v := by
  split at h
  · rename_i ti k n h1
    have e1 := hi.int_inv; subst e1
    split at h
    · rename_i l hu
      obtain ⟨s, rfl, rfl⟩ := hx.str_inv
      split at h
      · rename_i h0
        split at h
        · rename_i b hb
          simp only [Option.some.injEq, Prod.mk.injEq] at h
          obtain ⟨rfl, rfl⟩ := h
          refine ⟨.int .u8 b.toNat, ?_, .fr _ _ (.int _ _)⟩
          have hs : s[n.toNat]? = some b := by
            have : s.data[n.toNat]? = some b := by simpa using hb
            simp only [getElem?_def] at this ⊢
            split at this
            · rename_i hlt
              rw [dif_pos (by exact hlt)]
              exact this
            · simp at this
          simp [Instr.index, asIntOf, (hE _ _ h1).und_str w hu, h0, hs]
        · simp at h
      · simp at h
    · rename_i m e cs hu
      split at h
      · rename_i te h2
        split at h
        · rename_i hc
          split at h
          · rename_i v hv
            simp only [Option.some.injEq, Prod.mk.injEq] at h
            obtain ⟨rfl, rfl⟩ := h
            obtain ⟨vs, rfl, hl, ho, hp⟩ := hx.agg_inv
            obtain ⟨u, hu2, hr⟩ := rdAt_part (hE _ _ h2) w hv hl hp ho
            exact ⟨u, by simp [Instr.index, asIntOf, (hE _ _ h1).und_ar w hu, hc.1, hc.2, (hE _ _ h2).sizeOf, hu2], hr⟩
          · simp at h
        · simp at h
      · simp at h
    · simp at h
  · simp at h
end ops
end Go.VS
