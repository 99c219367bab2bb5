/-
  VS, part 13: all quiet operations in one theorem.
-/
import Derived.Test.YtkmcnmjjfgahpaaVsL
namespace Go.VS

section ops
variable {P : Program} {E : TEnv} (hE : ∀ t ti, E t = some ti → TyOK P t ti)
variable {w : World} {G : Heap} {φ : Phi} {A : Avoid}

theorem drewOut (hst : St w G φ A) : Out w G φ A w.drew G φ A :=
  have hevo : Evo w G φ A w.drew G φ A := ⟨fun c a t fr hc hn => ⟨⟨fr, hc⟩, hn⟩, Nat.le_refl _, fun i b' hb' _ => ⟨b', hb', rfl, rfl, rfl, rfl, fun loc hl => hl⟩, fun c _ => rfl⟩
  ⟨⟨hst.inj, hst.own, hst.bnd, fun id loc h => by
    obtain ⟨b, hb, hok⟩ := hst.blk id loc h
    refine ⟨b, hb, hok.ver, hok.sized, hok.virt, fun c b0 hl => ?_⟩
    obtain ⟨arr, T, fr, h1, h2, h3, h4⟩ := hok.here c b0 hl
    exact ⟨arr, T, fr, h1, h2, h3, fun i x j y v hx hy hv => ⟨(h4 i x j y v hx hy hv).1.mono hevo, (h4 i x j y v hx hy hv).2⟩⟩⟩,
    ⟨rfl, rfl, rfl, Nat.le_refl _, fun _ _ _ => rfl, fun _ _ => rfl, fun _ h => .inl h⟩, hevo, fun _ h _ => h⟩

theorem QRes.of {H0 H' : Heap} {r : Result Next} {x : AV} {v : Value} {w' : World} {φ' : Phi} {A' : Avoid} (hr : r = .ok (.value v) w') (hx : R w' G φ' A' x v) (ho : Out w G φ A w' G φ' A')
    (hid : ∀ id loc, φ' id = some loc → φ id = some loc ∨ (H0.bs.length ≤ id ∧ id < H'.bs.length)) : QRes w G φ A H0 H' r x := ⟨_, v, w', φ', A', hr, .inl rfl, hx, ho, hid⟩

include hE in
theorem q_append0 {H0 H' : Heap} (hst : St w G φ A) (hX0 : Ext H0 G) (hX : Ext H' G) (hnew : H0.bs.length < H'.bs.length → φ H0.bs.length = none) {t tx : TypeId} {tys : Array TypeId} {ty : TypeId} (h0 : tys[0]? = some t) (h1 : tys[1]? = some tx) {te txi : TI} (hte : elTI E t = some te)
    (htx : E tx = some txi) (hnx : ∀ k, txi.und ≠ .it k) {s x z : AV} {a b : Value} (hs : R w G φ A s a) (hx : R w G φ A x b) (hq : s = .nil ∨ s = .e0) (h : appendA te s x H0 = some (z, H')) :
    QRes w G φ A H0 H' ((do pure (.value (← Builtin.append_ tys ty #[a, b])) : Sem Next).run P w) z := by
  obtain ⟨ti, e, ht, hu, hee⟩ := elTI_inv hte
  obtain ⟨base, rfl⟩ : ∃ base, a = .slice base 0 0 := by
    rcases hq with rfl | rfl
    · exact ⟨none, hs.nil_inv⟩
    · obtain ⟨a0, rfl⟩ := hs.e0_inv; exact ⟨a0, rfl⟩
  unfold appendA at h
  split at h
  · simp at h
  · rename_i xs hxs
    split at h
    · simp at h
    · rename_i hsz
      simp only [Bool.not_eq_true', Bool.not_eq_false] at hsz
      split at h
      · simp at h
      · rename_i hz
        have hz : 0 < te.sz := by omega
        obtain ⟨cs, hsrc⟩ := src_ok (P := P) hst hX0 hx hxs hsz hz
        have hemp : xs.length = 0 → QRes w G φ A H0 H0 ((do pure (.value (← Builtin.append_ tys ty #[.slice base 0 0, b])) : Sem Next).run P w) s := by
          intro hl
          refine QRes.val hst ?_ hs
          obtain ⟨d, hd, hdn⟩ := not_it (hE _ _ htx) hnx w
          have hc := hsrc.run 0 (by omega)
          have hl2 := hsrc.len
          rw [hl] at hl2
          simp only [Nat.zero_mul, Array.extract_zero] at hc
          unfold Builtin.append_
          simp only [h0, h1, List.getElem?_toArray, List.getElem?_cons_zero, List.getElem?_cons_succ, Sem.run_bind, (hE _ _ ht).sl w hu, Result.andThen_ok, (hE _ _ hee).sizeOf, hd, Sem.run_pure]
          simp only [Bool.false_eq_true, if_false, Bool.not_false, if_true, Sem.run_bind, hl2, Result.andThen_ok, Nat.add_zero, Nat.le_refl, hc]
          cases base with
          | none => simp
          | some p => simp [storeCells]
        have hgrow : ∀ {v : Nat}, 0 < xs.length → roomy xs.length te.bytes = true → Ext (H0.new te.sz false xs) G → φ H0.bs.length = none → v = xs.length →
            QRes w G φ A H0 (H0.new te.sz false xs) ((do pure (.value (← Builtin.append_ tys ty #[.slice base 0 0, b])) : Sem Next).run P w) (.ref H0.bs.length H0.st 0 xs.length) := by
          intro v hl hr hX hnew0 _
          have hod := drewOut hst
          have hc : (Builtin.firstCells te.sz 0 (.slice base 0 0)).run P w.drew = .ok #[] w.drew := by
            cases base with
            | none => simp [Builtin.firstCells]
            | some p => simp [Builtin.firstCells, loadCells, loadCellsFrom]
          obtain ⟨cs', hsrc'⟩ := src_ok (P := P) hod.st hX0 (hx.mono hod.evo) hxs hsz hz
          have hc2 := hsrc'.run xs.length (Nat.le_refl _)
          rw [← hsrc'.size] at hc2
          simp only [Array.extract_size] at hc2
          obtain ⟨cap, arr, k1, k2, k3, k4⟩ := run_append_grow (P := P) (w := w) (hE _ _ ht) hu (hE _ _ hee) (hE _ _ htx) hnx tys h0 h1 ty hsrc.len hc hc2 (by simp) hsrc'.size (by omega) (by simpa using hr)
          simp only [Nat.zero_add] at k1 k2 k4
          have hs1 : ∀ (i : Nat) (x : AV), xs[i]? = some x → x.cells.length = te.sz := fun i x hi => szAll_get hsz hi
          have hle : xs.length * te.sz ≤ cap * te.sz := Nat.mul_le_mul_right _ k1
          obtain ⟨φ', A', hout, hφ, hid⟩ := newOut (arr := arr) e hod.st hX hnew0 hs1 (by rw [k3]; exact hle) (fun i x j y v hi hy hv => by
            have hil : i < xs.length := (List.getElem?_eq_some_iff.1 hi).1
            have hjl : j < x.cells.length := (List.getElem?_eq_some_iff.1 hy).1
            have := hs1 i x hi
            have := mul_lt_le (n := te.sz) hil
            rw [k4 _ (by omega)] at hv
            simp only [Array.empty_append] at hv
            exact hsrc'.rel i x j y v hi hy hv)
          have hg := hX.1 _ _ (Heap.get_new H0 te.sz false xs)
          exact QRes.of (by simp [k2]) (ref_new hg (Nat.lt_of_lt_of_le (Nat.lt_succ_self _) hX.2) hφ (Nat.le_refl _) k1 k1 (by
            have := bsz_new w.drew arr e
            rw [this, k3]; exact Nat.le_refl _)) (hod.trans hst hout) hid
        rcases hq with rfl | rfl
        · simp only at h
          split at h
          · rename_i hl
            simp only [Option.some.injEq, Prod.mk.injEq] at h
            obtain ⟨rfl, rfl⟩ := h
            exact hemp hl
          · rename_i hl
            split at h
            · rename_i hr
              simp only [Option.some.injEq, Prod.mk.injEq] at h
              obtain ⟨rfl, rfl⟩ := h
              exact hgrow (by omega) hr hX (hnew (by simp [Heap.new])) rfl
            · simp at h
        · simp only at h
          split at h
          · rename_i hl
            simp only [Option.some.injEq, Prod.mk.injEq] at h
            obtain ⟨rfl, rfl⟩ := h
            exact hemp hl
          · rename_i hl
            split at h
            · rename_i hr
              simp only [Option.some.injEq, Prod.mk.injEq] at h
              obtain ⟨rfl, rfl⟩ := h
              exact hgrow (by omega) hr hX (hnew (by simp [Heap.new])) rfl
            · simp at h

include hE in
theorem q_convert {H0 H' : Heap} (hst : St w G φ A) (hX0 : Ext H0 G) (hX : Ext H' G) (hnew : H0.bs.length < H'.bs.length → φ H0.bs.length = none) {src dst : TypeId} {x z : AV} {a : Value} (hx : R w G φ A x a)
    (h : (match (generalizing := false) E src, E dst, x with
    | some _, some td, .int _ n => match td.und with
      | .it k => some (AV.int k (k.wrap n), H0)
      | _ => none
    | some _, some td, .str l => match td.und with
      | .str => some (.str l, H0)
      | .sl e => match E e with
        | some te => match te.und with
          | .it .u8 => if te.sz = 1 ∧ te.bytes = 1 ∧ l.length ≤ 2 ^ 45 then some (.ref H0.bs.length H0.st 0 l.length, H0.new 1 false (l.map fun b => .int .u8 b.toNat)) else none
          | _ => none
        | none => none
      | _ => none
    | some ts, some td, x => match ts.und, td.und with
      | .sl e, .str => match E e with
        | some te => match te.und with
          | .it .u8 => match elemsOf H0 x with
            | some xs => if te.sz = 1 then (match ((bytesOf xs).map AV.str) with | some v => some (v, H0) | none => none) else none
            | none => none
          | _ => none
        | none => none
      | _, _ => none
    | _, _, _ => none) = some (z, H')) : QRes w G φ A H0 H' ((do pure (.value (← convert src dst a)) : Sem Next).run P w) z := by
  have hs0 : (∃ s, x = .str s) ∨ ∀ s, x ≠ .str s := by
    by_cases h : ∃ s, x = .str s
    · exact .inl h
    · exact .inr fun s hs => h ⟨s, hs⟩
  split at h
  · rename_i ts td k n h1 h2
    have e1 := hx.int_inv; subst e1
    split at h
    · rename_i k' hu
      simp only [Option.some.injEq, Prod.mk.injEq] at h
      obtain ⟨rfl, rfl⟩ := h
      obtain ⟨i, d, zz, _, hd, _⟩ := (hE _ _ h1).out
      refine QRes.val hst ?_ (.fr _ _ (.int _ _))
      simp only [Sem.run_bind, convert, run_underlying hd, (hE _ _ h2).und_it w hu, Result.andThen_ok]
      cases d <;> rfl
    · simp at h
  · rename_i ts td l h1 h2
    obtain ⟨s, rfl, rfl⟩ := hx.str_inv
    obtain ⟨i, d, zz, _, hd, _⟩ := (hE _ _ h1).out
    split at h
    · rename_i hu
      simp only [Option.some.injEq, Prod.mk.injEq] at h
      obtain ⟨rfl, rfl⟩ := h
      refine QRes.val hst ?_ hx
      simp only [Sem.run_bind, convert, run_underlying hd, (hE _ _ h2).und_str w hu, Result.andThen_ok]
      cases d <;> rfl
    · rename_i e hu
      split at h
      · rename_i te h3
        split at h
        · rename_i hue
          split at h
          · rename_i hc
            simp only [Option.some.injEq, Prod.mk.injEq] at h
            obtain ⟨rfl, rfl⟩ := h
            have hl : s.data.toList.length = s.size := Array.length_toList
            have hod := drewOut hst
            let q : Question := .appendCap s.size 0 e
            let cap := q.cut (w.tape w.drawn q)
            have hcap : s.size ≤ cap := Nat.le_add_right _ _
            let arr : Array Value := (s.data.map fun b => Value.int .u8 b.toNat) ++ Array.replicate (cap - s.size) (.int .u8 0)
            have harr : arr.size = cap := by
              simp only [arr, Array.size_append, Array.size_map, Array.size_replicate]
              have : s.data.size = s.size := rfl
              omega
            obtain ⟨φ', A', hout, hφ, hid⟩ := newOutF (arr := arr) (arr.size, arr.size + 1) e hod.st hX (hnew (by simp [Heap.new])) (fun i x hi => by
                simp only [List.getElem?_map, Option.map_eq_some_iff] at hi
                obtain ⟨c, _, rfl⟩ := hi; rfl) (by rw [List.length_map, hl, harr]; omega) (fun j hj h => by have := h.1; simp only at this; omega) (fun i x j y v hi hy hv => by
                simp only [List.getElem?_map, Option.map_eq_some_iff] at hi
                obtain ⟨c, hc, rfl⟩ := hi
                cases j with
                | zero =>
                  simp only [AV.cells, List.getElem?_cons_zero, Option.some.injEq] at hy; subst hy
                  simp only [Nat.mul_one, Nat.add_zero] at hv
                  have hi : i < s.data.size := by rw [← Array.length_toList]; exact (List.getElem?_eq_some_iff.1 hc).1
                  simp only [arr] at hv
                  rw [Array.getElem?_append_left (by simpa using hi)] at hv
                  simp only [Array.getElem?_map, Option.map_eq_some_iff] at hv
                  obtain ⟨c', hc', rfl⟩ := hv
                  have : s.data[i]? = some c := by simpa using hc
                  rw [this] at hc'
                  simp only [Option.some.injEq] at hc'; subst hc'
                  exact ⟨.fr _ _ (.int _ _), rfl⟩
                | succ j => simp [AV.cells] at hy)
            have hg := hX.1 _ _ (Heap.get_new H0 1 false (s.data.toList.map fun b => AV.int .u8 b.toNat))
            have hrun : (convert src dst (.string s)).run P w = .ok (.slice (some ⟨w.heap.size, 0, none⟩) s.size cap) (w.drew.alloc (.cells arr e (arr.size, arr.size + 1))) := by
              have e2 : (convert src dst (.string s)).run P w = (Conv.stringToBytes e s).run P w := by
                simp only [convert, Sem.run_bind, run_underlying hd, (hE _ _ h2).sl w hu, Result.andThen_ok]
                have := (hE _ _ h3).und_it w hue
                cases d <;> simp [this]
              rw [e2]
              unfold Conv.stringToBytes
              simp only [Sem.run_bind, run_choose, Question.forced, Bool.false_eq_true, if_false, World.drew_eq, Result.andThen_ok, newRow, run_newObj, World.alloc_eq, Sem.run_pure]
              have hsh : ((w.drew.alloc (.cells arr e)).shape? w.drew.heap.size) = some (e, arr.size) := by
                unfold World.shape?; rw [heap_alloc_new]
              simp only [markStringish, Sem.run_bind, run_shape, Result.andThen_ok]
              rw [show (w.drew.alloc (.cells ((s.data.map fun b => Value.int .u8 b.toNat) ++ Array.replicate (q.cut (w.tape w.drawn q) - s.size) (.int .u8 0)) e)) = w.drew.alloc (.cells arr e) from rfl]
              rw [hsh]
              simp only [run_freeze, Result.andThen_ok]
              congr 1
              unfold World.freeze
              simp only [Nat.one_ne_zero, if_false]
              have : ∀ (h : Array Obj) (o : Obj) (f : Obj → Obj), (h.push o).modify h.size f = h.push (f o) := by
                intro h o f
                apply Array.ext
                · simp
                · intro i h1 h2
                  simp only [Array.getElem_modify, Array.getElem_push]
                  simp at h1
                  by_cases hi : h.size = i
                  · subst hi; simp
                  · have : i < h.size := by omega
                    simp [hi, this]
              show ({ w.drew.alloc (.cells arr e) with heap := (w.drew.heap.push (.cells arr e)).modify w.drew.heap.size _ } : World) = _
              rw [this]
              rfl
            refine QRes.of (by simp [hrun]; rfl) ?_ (hod.trans hst hout) hid
            rw [hl]
            exact ref_new hg (Nat.lt_of_lt_of_le (Nat.lt_succ_self _) hX.2) hφ (by simp [hl]) hcap (by simp [hl]; exact hcap) (by
              have : bsz (w.drew.alloc (.cells arr e (arr.size, arr.size + 1))) w.heap.size = arr.size := by
                unfold bsz; rw [show w.heap.size = w.drew.heap.size from rfl, heap_alloc_new]
              rw [this, harr]; simp)
          · simp at h
        · simp at h
      · simp at h
    · simp at h
  · rename_i x o1 o2 x' ts td h1 h2 hnint hnstr
    replace hnstr : ∀ s, x ≠ AV.str s := by
      rcases hs0 with ⟨s, rfl⟩ | hn
      · exact (hnstr s rfl).elim
      · exact hn
    split at h
    · rename_i e hus hud
      split at h
      · rename_i te h3
        split at h
        · rename_i hue
          split at h
          · rename_i xs hxs
            split at h
            · split at h
              · rename_i v hv
                simp only [Option.some.injEq, Prod.mk.injEq] at h
                obtain ⟨rfl, rfl⟩ := h
                simp only [Option.map_eq_some_iff] at hv
                obtain ⟨l, hl, rfl⟩ := hv
                obtain ⟨u, hu, hr⟩ := q_toString hE hst hX0 hx hxs hl hnstr
                refine QRes.val hst ?_ hr
                have ha : ∃ a0 l0 c0, a = .slice a0 l0 c0 := by
                  obtain ⟨ns, hns, _⟩ := bytesOf_map hl
                  have hel := elems_at hst hX0 hx hxs (sz := 1) (by rw [hns]; simp [szAll, AV.cells]) hnstr
                  rcases hel.out with ⟨_, a0, c0, rfl⟩ | ⟨c, o, cap, arr, T, fr, rfl, _⟩
                  · exact ⟨_, _, _, rfl⟩
                  · exact ⟨_, _, _, rfl⟩
                obtain ⟨a0, l0, c0, rfl⟩ := ha
                have e3 := (hE _ _ h3).und_it w hue
                simp only [Sem.run_bind, convert, (hE _ _ h1).sl w hus, (hE _ _ h2).und_str w hud, Result.andThen_ok]
                cases a0 <;> simp [e3, hu]
              · simp at h
            · simp at h
          · simp at h
        · simp at h
      · simp at h
    · simp at h
  · simp at h
end ops
end Go.VS
