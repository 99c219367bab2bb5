/-
  VS, part 9: the operations that make memory, and 'build'.
-/
import Derived.Test.YtkmcnmjjfgahpaaVsH
import Derived.IntWalk
namespace Go.VS

theorem Heap.get_new (H : Heap) (sz : Nat) (fx : Bool) (el : List AV) : (H.new sz fx el).get H.bs.length = some ⟨H.st, sz, fx, el⟩ := by
  simp [Heap.new, Heap.get]
theorem Heap.get_new_old (H : Heap) (sz : Nat) (fx : Bool) (el : List AV) {id : Nat} (h : id < H.bs.length) : (H.new sz fx el).get id = H.get id := by
  simp [Heap.new, Heap.get, List.getElem?_append_left h]
theorem Heap.ext_new (H : Heap) (sz : Nat) (fx : Bool) (el : List AV) : Ext H (H.new sz fx el) :=
  ⟨fun id b h => by rw [Heap.get_new_old H sz fx el (Heap.get_lt h)]; exact h, Nat.le_succ _⟩

/-- Writing cells into an array, one by one. -/
theorem foldl_set (l : List Value) : ∀ (off k : Nat) (cs : Array Value), off + k + l.length ≤ cs.size →
    ((l.zipIdx k).foldl (fun cs (p : Value × Nat) => cs.setIfInBounds (off + p.2) p.1) cs).size = cs.size ∧
    ∀ m, ((l.zipIdx k).foldl (fun cs (p : Value × Nat) => cs.setIfInBounds (off + p.2) p.1) cs)[m]? = if off + k ≤ m ∧ m < off + k + l.length then l[m - (off + k)]? else cs[m]? := by
  induction l with
  | nil => intro off k cs _; exact ⟨rfl, fun m => by simp; intro h1 h2; omega⟩
  | cons x l ih =>
    intro off k cs h
    simp only [List.length_cons] at h
    obtain ⟨h1, h2⟩ := ih off (k + 1) (cs.setIfInBounds (off + k) x) (by simp; omega)
    simp only [List.zipIdx_cons, List.foldl_cons]
    refine ⟨by rw [h1]; simp, fun m => ?_⟩
    rw [h2, Array.getElem?_setIfInBounds]
    simp only [List.length_cons]
    by_cases hm : m = off + k
    · subst hm
      rw [if_neg (by omega)]
      simp only [if_true]
      rw [if_pos (by omega), if_pos (by omega)]
      simp
    · by_cases hm2 : off + (k + 1) ≤ m ∧ m < off + (k + 1) + l.length
      · rw [if_pos hm2, if_pos (by omega)]
        obtain ⟨q, rfl⟩ : ∃ q, m = off + k + 1 + q := ⟨m - (off + k + 1), by omega⟩
        have e1 : off + k + 1 + q - (off + (k + 1)) = q := by omega
        have e2 : off + k + 1 + q - (off + k) = q + 1 := by omega
        rw [e1, e2]; rfl
      · rw [if_neg hm2, if_neg (by omega), if_neg (by omega)]

theorem foldl_set_arr (vs : Array Value) (off : Nat) (cs : Array Value) (h : off + vs.size ≤ cs.size) :
    (vs.zipIdx.foldl (fun cs (c, j) => cs.setIfInBounds (off + j) c) cs).size = cs.size ∧
    ∀ m, (vs.zipIdx.foldl (fun cs (c, j) => cs.setIfInBounds (off + j) c) cs)[m]? = if off ≤ m ∧ m < off + vs.size then vs[m - off]? else cs[m]? := by
  have e : vs.zipIdx.foldl (fun cs (c, j) => cs.setIfInBounds (off + j) c) cs = (vs.toList.zipIdx 0).foldl (fun cs (p : Value × Nat) => cs.setIfInBounds (off + p.2) p.1) cs := by
    rw [← Array.foldl_toList, Array.toList_zipIdx]
  rw [e]
  have := foldl_set vs.toList off 0 cs (by simpa using h)
  simpa using this

theorem splice_get (cs : List AV) (off : Nat) (vs : List AV) (h : off + vs.length ≤ cs.length) (m : Nat) :
    (splice cs off vs)[m]? = if off ≤ m ∧ m < off + vs.length then vs[m - off]? else cs[m]? := by
  unfold splice
  rw [List.append_assoc, List.getElem?_append]
  have hl : (cs.take off).length = off := by simp; omega
  rw [hl]
  by_cases h1 : m < off
  · rw [if_pos h1, if_neg (by omega), List.getElem?_take, if_pos h1]
  · rw [if_neg h1, List.getElem?_append]
    by_cases h2 : m - off < vs.length
    · rw [if_pos h2, if_pos (by omega)]
    · rw [if_neg h2, if_neg (by omega), List.getElem?_drop]
      congr 1; omega
theorem splice_len (cs : List AV) (off : Nat) (vs : List AV) (h : off + vs.length ≤ cs.length) : (splice cs off vs).length = cs.length := by
  unfold splice; simp; omega

section ops
variable {P : Program} {E : TEnv} (hE : ∀ t ti, E t = some ti → TyOK P t ti)
variable {w : World} {G : Heap} {φ : Phi} {A : Avoid}

theorem newOutF (fr0 : Nat × Nat) {H0 : Heap} {sz : Nat} {el : List AV} {arr : Array Value} (T : TypeId) (hst : St w G φ A) (hX : Ext (H0.new sz false el) G) (hnew : φ H0.bs.length = none)
    (hsz : ∀ (i : Nat) (x : AV), el[i]? = some x → x.cells.length = sz) (hlen : el.length * sz ≤ arr.size) (hfr : ∀ j, j < arr.size → ¬ (fr0.1 ≤ j ∧ j < fr0.2))
    (hcells : ∀ (i : Nat) (x : AV) (j : Nat) (y : AV) (v : Value), el[i]? = some x → x.cells[j]? = some y → arr[i * sz + j]? = some v → R w G φ A y v ∧ v.oneCell' = true) :
    ∃ φ' A', Out w G φ A (w.alloc (.cells arr T fr0)) G φ' A' ∧ φ' H0.bs.length = some (.at_ w.heap.size 0) ∧
      ∀ id loc, φ' id = some loc → φ id = some loc ∨ (H0.bs.length ≤ id ∧ id < (H0.new sz false el).bs.length) := by
  have hg := hX.1 _ _ (Heap.get_new H0 sz false el)
  have hv : H0.st < G.st := Nat.lt_of_lt_of_le (Nat.lt_succ_self _) hX.2
  refine ⟨_, _, allocOutF fr0 hst hg hnew hv hsz arr T hlen hfr hcells, by simp, fun id loc h => ?_⟩
  try simp only at h
  split at h
  · rename_i hi; subst hi; exact .inr ⟨Nat.le_refl _, by simp [Heap.new]⟩
  · exact .inl h

theorem newOut {H0 : Heap} {sz : Nat} {el : List AV} {arr : Array Value} (T : TypeId) (hst : St w G φ A) (hX : Ext (H0.new sz false el) G) (hnew : φ H0.bs.length = none)
    (hsz : ∀ (i : Nat) (x : AV), el[i]? = some x → x.cells.length = sz) (hlen : el.length * sz ≤ arr.size)
    (hcells : ∀ (i : Nat) (x : AV) (j : Nat) (y : AV) (v : Value), el[i]? = some x → x.cells[j]? = some y → arr[i * sz + j]? = some v → R w G φ A y v ∧ v.oneCell' = true) :
    ∃ φ' A', Out w G φ A (w.alloc (.cells arr T)) G φ' A' ∧ φ' H0.bs.length = some (.at_ w.heap.size 0) ∧
      ∀ id loc, φ' id = some loc → φ id = some loc ∨ (H0.bs.length ≤ id ∧ id < (H0.new sz false el).bs.length) :=
  newOutF (0, 0) T hst hX hnew hsz hlen (fun j _ h => absurd h.2 (Nat.not_lt_zero j)) hcells

/-- A block that nothing of ours lies in. -/
theorem allocOut0 (hst : St w G φ A) (o : Obj) : Out w G φ A (w.alloc o) G φ A := by
  have hevo : Evo w G φ A (w.alloc o) G φ A := ⟨fun c a t fr hc hn => ⟨⟨fr, by rw [heap_alloc_old w _ (lt_of_heap hc)]; exact hc⟩, hn⟩, Nat.le_refl _,
    fun i b' hb' _ => ⟨b', hb', rfl, rfl, rfl, rfl, fun loc hl => hl⟩, fun c hc => by unfold bsz; rw [heap_alloc_old w _ (Ow.lt hst hc)]⟩
  refine ⟨⟨hst.inj, hst.own, fun c hc => by have := hst.bnd c hc; simp; omega, fun i loc hl => ?_⟩,
    ⟨rfl, rfl, rfl, by simp, fun c hc _ => heap_alloc_old w _ hc, fun c hc => by unfold bsz; rw [heap_alloc_old w _ hc], fun c hc => .inl hc⟩, hevo, fun c hc _ => hc⟩
  obtain ⟨b', hg', hb'⟩ := hst.blk i loc hl
  refine ⟨b', hg', hb'.ver, hb'.sized, hb'.virt, fun c b0 h => ?_⟩
  obtain ⟨a, t, fr, h1, h2, h3, h4⟩ := hb'.here c b0 h
  exact ⟨a, t, fr, by rw [heap_alloc_old w _ (lt_of_heap h1)]; exact h1, h2, h3, fun i x j y v hx hy hv => ⟨(h4 i x j y v hx hy hv).1.mono hevo, (h4 i x j y v hx hy hv).2⟩⟩

theorem ref_new {id : Nat} {b : Blk} {c len cap : Nat} (hg : G.get id = some b) (hv : b.ver < G.st) (hφ : φ id = some (.at_ c 0)) (h1 : len ≤ b.el.length) (h2 : len ≤ cap) (h3 : b.el.length ≤ cap) (h4 : cap * b.sz ≤ bsz w c) :
    R w G φ A (.ref id b.ver 0 len) (.slice (some ⟨c, 0, none⟩) len cap) := by
  refine .ref _ _ _ _ _ hv ⟨_, _, _, rfl⟩ fun b' hb' => ?_
  have := (Heap.blk_get hb').1
  rw [hg] at this
  simp only [Option.some.injEq] at this; subst this
  exact ⟨.at_ c 0, _, _, hφ, rfl, by omega, h2, by omega, .inr ⟨by simp, by simpa using h4⟩⟩

theorem bsz_new (w : World) (arr : Array Value) (T : TypeId) : bsz (w.alloc (.cells arr T)) w.heap.size = arr.size := by
  unfold bsz; rw [heap_alloc_new]

/-- A type's zero value. -/
theorem zero_ok {t : TypeId} {ti : TI} (ht : TyOK P t ti) {zA : AV} (h : zeroA ti = some zA) (w : World) :
    ∃ z, (zeroValue t).run P w = .ok z w ∧ z.cells.size = ti.sz ∧ zA.cells = ti.zero ∧ ti.zero.length = ti.sz ∧ isAggV z = ti.agg ∧
      (∀ (w : World) (A : Avoid) (j : Nat) (y : AV) (v : Value), ti.zero[j]? = some y → z.cells[j]? = some v → FR w A y v ∧ v.oneCell' = true) := by
  obtain ⟨z, h1, h2, h3, h4, h5⟩ := ht.zeroValue w
  unfold zeroA at h
  split at h
  · rename_i hc
    refine ⟨z, h1, h2, ?_, hc.2, h3, fun w A j y v hy hv => ⟨?_, h4 j v hv⟩⟩
    · rcases mkT_some h with ⟨_, rfl⟩ | ⟨_, he⟩
      · rfl
      · rw [he]
        have := hc.1
        rw [he] at this
        simp at this
        cases zA <;> first | rfl | simp [stor1] at this
    · rw [h5] at hy
      simp only [List.getElem?_map, Option.map_eq_some_iff, Array.getElem?_toList] at hy
      obtain ⟨u, hu, rfl⟩ := hy
      rw [hv] at hu
      simp only [Option.some.injEq] at hu; subst hu
      exact FR.ofValue w A v
  · simp at h

include hE in
theorem q_alloc {H0 H' : Heap} (hst : St w G φ A) (hX : Ext H' G) (hnew : H0.bs.length < H'.bs.length → φ H0.bs.length = none) {t : TypeId} {z : AV}
    (h : (match E t with
    | some ti => match zeroA ti with
      | some z => some (AV.ptr H0.bs.length H0.st 0 0, H0.new ti.sz false [z])
      | none => none
    | none => none) = some (z, H')) : QRes w G φ A H0 H' ((do pure (.value (← Instr.alloc t true (.tuple #[]))) : Sem Next).run P w) z := by
  split at h
  · rename_i ti h1
    split at h
    · rename_i zA hz
      simp only [Option.some.injEq, Prod.mk.injEq] at h
      obtain ⟨rfl, rfl⟩ := h
      obtain ⟨zv, e1, e2, e3, e4, _, e5⟩ := zero_ok (hE _ _ h1) hz w
      have hs1 : ∀ (i : Nat) (x : AV), [zA][i]? = some x → x.cells.length = ti.sz := by
        intro i x hx
        cases i with
        | zero => simp at hx; subst hx; rw [e3, e4]
        | succ i => simp at hx
      have hs2 : ∀ (i : Nat) (x : AV) (j : Nat) (y : AV) (v : Value), [zA][i]? = some x → x.cells[j]? = some y → zv.cells[i * ti.sz + j]? = some v → R w G φ A y v ∧ v.oneCell' = true := by
        intro i x j y v hx hy hv
        cases i with
        | zero =>
          simp only [List.getElem?_cons_zero, Option.some.injEq, Nat.zero_mul, Nat.zero_add] at hx hv; subst hx
          rw [e3] at hy
          have := e5 w A j y v hy hv
          exact ⟨.fr _ _ this.1, this.2⟩
        | succ i => simp at hx
      obtain ⟨φ', A', hout, hφ, hid⟩ := newOut (arr := zv.cells) t hst hX (hnew (by simp [Heap.new])) hs1 (by simp [e2]) hs2
      · refine ⟨_, .pointer (some ⟨w.heap.size, 0, none⟩), _, φ', A', by simp [Instr.alloc, e1, newVar, newRow], .inl rfl, ptr_new (Nat.lt_of_lt_of_le (Nat.lt_succ_self _) hX.2) hφ, hout, hid⟩
    · simp at h
  · simp at h

include hE in
theorem q_box {H0 H' : Heap} (hst : St w G φ A) (hX : Ext H' G) (hnew : H0.bs.length < H'.bs.length → φ H0.bs.length = none) {t : TypeId} {x z : AV} {a : Value} (hx : R w G φ A x a)
    (h : (match E t with
    | some ti => if x.cells.length = ti.sz ∧ storA x then some (AV.ptr H0.bs.length H0.st 0 0, H0.new ti.sz false [x]) else none
    | none => none) = some (z, H')) : QRes w G φ A H0 H' ((do pure (.value (← Instr.box t a)) : Sem Next).run P w) z := by
  have _ := @hE
  split at h
  · rename_i ti h1
    split at h
    · rename_i hc
      simp only [Option.some.injEq, Prod.mk.injEq] at h
      obtain ⟨rfl, rfl⟩ := h
      have hu : x ≠ .undef := by rintro rfl; simp [storA, stor1] at hc
      obtain ⟨k1, k2⟩ := hx.cells hu
      have k3 := hx.ones hc.2
      have hs1 : ∀ (i : Nat) (y : AV), [x][i]? = some y → y.cells.length = ti.sz := by
        intro i y hy
        cases i with
        | zero => simp at hy; subst hy; exact hc.1
        | succ i => simp at hy
      have hs2 : ∀ (i : Nat) (x' : AV) (j : Nat) (y : AV) (v : Value), [x][i]? = some x' → x'.cells[j]? = some y → a.cells[i * ti.sz + j]? = some v → R w G φ A y v ∧ v.oneCell' = true := by
        intro i x' j y v hx' hy hv
        cases i with
        | zero =>
          simp only [List.getElem?_cons_zero, Option.some.injEq, Nat.zero_mul, Nat.zero_add] at hx' hv; subst hx'
          exact ⟨k2 j y v hy hv, k3 j v hv⟩
        | succ i => simp at hx'
      obtain ⟨φ', A', hout, hφ, hid⟩ := newOut (arr := a.cells) t hst hX (hnew (by simp [Heap.new])) hs1 (by simp; omega) hs2
      · refine ⟨_, .pointer (some ⟨w.heap.size, 0, none⟩), _, φ', A', by simp [Instr.box, newVar, newRow], .inl rfl, ptr_new (Nat.lt_of_lt_of_le (Nat.lt_succ_self _) hX.2) hφ, hout, hid⟩
    · simp at h
  · simp at h

theorem rep_cells {sz m : Nat} {zero : Array Value} (hz : zero.size = sz) {i j : Nat} {v : Value} (hi : i < m) (hj : j < sz) (hv : ((Array.range (m * sz)).map (fun k => zero[k % zero.size]!))[i * sz + j]? = some v) : zero[j]? = some v := by
  have hle := mul_lt_le (n := sz) hi
  have hk : i * sz + j < m * sz := by omega
  rw [Array.getElem?_map, Array.getElem?_range, if_pos hk] at hv
  simp only [Option.map_some, Option.some.injEq] at hv
  rw [hz, Nat.add_comm, Nat.add_mul_mod_self_right, Nat.mod_eq_of_lt hj] at hv
  rw [← hv]
  have : j < zero.size := by omega
  simp [this]

theorem wkA_cells (x : AV) : (wkA x).cells = x.cells.map wk1 := by
  cases x <;> rfl
theorem wk1_fr {w : World} {A : Avoid} {x : AV} {v : Value} (h : FR w A x v) : FR w A (wk1 x) v := by
  cases x with
  | nil => cases h; exact .fz0 none 0
  | e0 => cases h; exact .fz0 _ 0
  | _ => exact h
theorem zeroE_ok {t : TypeId} {ti : TI} (ht : TyOK P t ti) {zA : AV} (h : zeroE ti = some zA) (w : World) :
    ∃ z, (zeroValue t).run P w = .ok z w ∧ z.cells.size = ti.sz ∧ zA.cells.length = ti.sz ∧
      (∀ (w : World) (A : Avoid) (j : Nat) (y : AV) (v : Value), zA.cells[j]? = some y → z.cells[j]? = some v → FR w A y v ∧ v.oneCell' = true) := by
  unfold zeroE at h
  split at h
  · rename_i z0 hz0
    obtain ⟨z, h1, h2, h3, h4, _, h5⟩ := zero_ok ht hz0 w
    simp only [Option.some.injEq] at h
    refine ⟨z, h1, h2, ?_, fun w A j y v hy hv => ?_⟩
    · subst h
      split
      · rw [wkA_cells, List.length_map, h3, h4]
      · rw [h3, h4]
    · subst h
      split at hy
      · rw [wkA_cells, h3] at hy
        simp only [List.getElem?_map, Option.map_eq_some_iff] at hy
        obtain ⟨y', hy', rfl⟩ := hy
        have := h5 w A j y' v hy' hv
        exact ⟨wk1_fr this.1, this.2⟩
      · rw [h3] at hy
        exact h5 w A j y v hy hv
  · simp at h

include hE in
theorem q_makeSlice {H0 H' : Heap} (hst : St w G φ A) (hX : Ext H' G) (hnew : H0.bs.length < H'.bs.length → φ H0.bs.length = none) {t : TypeId} {l c z : AV} {al ac : Value} (hl : R w G φ A l al) (hc : R w G φ A c ac)
    (h : (match (generalizing := false) elTI E t, l, c with
    | some te, .int .i64 n, .int .i64 m =>
      match zeroE te with
      | some z => if 0 ≤ n ∧ n ≤ m ∧ roomy m.toNat te.bytes ∧ te.sz ≠ 0 then some (AV.ref H0.bs.length H0.st 0 n.toNat, H0.new te.sz false (List.replicate m.toNat z)) else none
      | none => none
    | _, _, _ => none) = some (z, H')) : QRes w G φ A H0 H' ((do pure (.value (← Instr.makeSlice t al ac)) : Sem Next).run P w) z := by
  split at h
  · rename_i te n m hte
    have e1 := hl.int_inv; have e2 := hc.int_inv; subst e1; subst e2
    split at h
    · rename_i zA hz
      split at h
      · rename_i hcnd
        obtain ⟨c0, c1, c2, c3⟩ := hcnd
        simp only [Option.some.injEq, Prod.mk.injEq] at h
        obtain ⟨rfl, rfl⟩ := h
        obtain ⟨ti, e, ht, hu, hee⟩ : ∃ ti e, E t = some ti ∧ ti.und = .sl e ∧ E e = some te := by
          unfold elTI at hte
          split at hte
          · rename_i ti ht
            split at hte
            · rename_i e hu; exact ⟨ti, e, ht, hu, hte⟩
            · simp at hte
          · simp at hte
        obtain ⟨zv, z1, z2, z3, z5⟩ := zeroE_ok (hE _ _ hee) hz w
        obtain ⟨inf, i1, i2, _⟩ := (hE _ _ hee).typeInfo w
        simp only [roomy, Bool.and_eq_true, decide_eq_true_eq] at c2
        obtain ⟨r1, r2⟩ := c2
        have hm : IntKind.i64.wrap m = m := IntWalk.i64_in m (by omega)
        have hn : IntKind.i64.wrap n = n := IntWalk.i64_in n (by omega)
        have hb : ¬ ((inf.bytes : Int) * m > 2 ^ 48) := by
          rw [i2]
          have e1 : (m.toNat + 512) * te.bytes = m.toNat * te.bytes + 512 * te.bytes := Nat.add_mul _ _ _
          have e2 : ((te.bytes : Int)) * m = ((m.toNat * te.bytes : Nat) : Int) := by
            rw [Int.natCast_mul, Int.toNat_of_nonneg (by omega), Int.mul_comm]
          rw [e2]; omega
        have hu1 := (hE _ _ ht).sl w hu
        let zc : Array Value := if m.toNat * te.sz = 0 then #[] else zv.cells
        let arr : Array Value := (Array.range (m.toNat * te.sz)).map (fun k => zc[k % zc.size]!)
        have hrun : (Instr.makeSlice t (.int .i64 n) (.int .i64 m)).run P w = .ok (.slice (some ⟨w.heap.size, 0, none⟩) n.toNat m.toNat) (w.alloc (.cells arr e)) := by
          unfold Instr.makeSlice
          simp only [Sem.run_bind, hu1, Result.andThen_ok, asInt, asIntOf, Sem.run_pure, i1, hn, hm]
          have t1 : (decide (m < 0) || decide ((inf.bytes : Int) * m > 2 ^ 48)) = false := by simp; omega
          have t2 : decide (n < 0) = false := by simp; omega
          have t3 : decide (n > m) = false := by simp; omega
          simp only [t1, t2, t3, Bool.or_self, Bool.false_eq_true, if_false, Result.andThen_ok, Sem.run_bind, run_askRoom, (hE _ _ hee).sizeOf]
          by_cases hz0 : m.toNat * te.sz = 0
          · simp [hz0, newRow, arr, zc]
          · simp [hz0, z1, newRow, arr, zc]
        have harr : arr.size = m.toNat * te.sz := by simp [arr]
        have hs1 : ∀ (i : Nat) (x : AV), (List.replicate m.toNat zA)[i]? = some x → x.cells.length = te.sz := by
          intro i x hx
          simp only [List.getElem?_replicate] at hx
          split at hx
          · simp only [Option.some.injEq] at hx; subst hx; exact z3
          · simp at hx
        have hs2 : ∀ (i : Nat) (x : AV) (j : Nat) (y : AV) (v : Value), (List.replicate m.toNat zA)[i]? = some x → x.cells[j]? = some y → arr[i * te.sz + j]? = some v → R w G φ A y v ∧ v.oneCell' = true := by
          intro i x j y v hx hy hv
          simp only [List.getElem?_replicate] at hx
          split at hx
          · rename_i hi
            simp only [Option.some.injEq] at hx; subst hx
            have hj : j < te.sz := by rw [← z3]; exact (List.getElem?_eq_some_iff.1 hy).1
            have hne : ¬ (m.toNat * te.sz = 0) := by
              intro h0
              rcases Nat.mul_eq_zero.1 h0 with h0 | h0 <;> omega
            have hv' : zv.cells[j]? = some v := by
              have hzc : zc = zv.cells := by simp only [zc]; rw [if_neg hne]
              refine rep_cells z2 hi hj ?_
              rw [← hv]; simp only [arr, hzc]
            have := z5 w A j y v hy hv'
            exact ⟨.fr _ _ this.1, this.2⟩
          · simp at hx
        obtain ⟨φ', A', hout, hφ, hid⟩ := newOut (arr := arr) e hst hX (hnew (by simp [Heap.new])) hs1 (by simp [harr]) hs2
        · have hg := hX.1 _ _ (Heap.get_new H0 te.sz false (List.replicate m.toNat zA))
          refine ⟨_, _, _, φ', A', by simp only [Sem.run_bind, hrun, Result.andThen_ok, Sem.run_pure]; rfl, .inl rfl,
            ref_new hg (Nat.lt_of_lt_of_le (Nat.lt_succ_self _) hX.2) hφ (by simp; omega) (by omega) (by simp) (by rw [bsz_new, harr]; exact Nat.le_refl _), hout, hid⟩
      · simp at h
    · simp at h
  · simp at h
end ops
end Go.VS
