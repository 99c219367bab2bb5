/-
  VS, part 10: literals, conversions, builtins that are quiet; all quiet operations in one theorem.
-/
import Derived.Test.YtkmcnmjjfgahpaaVsI
namespace Go.VS

section ops
variable {P : Program} {E : TEnv} (hE : ∀ t ti, E t = some ti → TyOK P t ti)
variable {w : World} {G : Heap} {φ : Phi} {A : Avoid}

theorem storA_ne {x : AV} (h : storA x = true) : x ≠ .undef := by rintro rfl; simp [storA, stor1] at h

/-- Filling the cells of a struct or an array. -/
theorem fill_ok {placeA placeC : Nat → Option (Nat × Nat)} (hp : ∀ i o s, placeA i = some (o, s) → placeC i = some (o, s)) :
    ∀ (ps : List (Nat × AV)) (qs : List (Nat × Value)) (cs : List AV) (vs : Array Value) (cs' : List AV), ps.length = qs.length →
    (∀ (k : Nat) (p : Nat × AV) (q : Nat × Value), ps[k]? = some p → qs[k]? = some q → p.1 = q.1 ∧ R w G φ A p.2 q.2) → cs.length = vs.size →
    (∀ (j : Nat) (y : AV) (v : Value), cs[j]? = some y → vs[j]? = some v → R w G φ A y v ∧ v.oneCell' = true) → fillA placeA cs ps = some cs' →
    ∃ vs', Instr.fill placeC vs qs = some vs' ∧ cs'.length = vs'.size ∧ vs'.size = vs.size ∧ ∀ (j : Nat) (y : AV) (v : Value), cs'[j]? = some y → vs'[j]? = some v → R w G φ A y v ∧ v.oneCell' = true
  | [], [], cs, vs, cs', _, _, hl, hc, h => by
    simp only [fillA, Option.some.injEq] at h; subst h
    exact ⟨vs, rfl, hl, rfl, hc⟩
  | [], _ :: _, _, _, _, h, _, _, _, _ => by simp at h
  | _ :: _, [], _, _, _, h, _, _, _, _ => by simp at h
  | (i, x) :: ps, (i', v) :: qs, cs, vs, cs', hlen, hr, hl, hc, h => by
    obtain ⟨hi, hx⟩ := hr 0 _ _ rfl rfl
    simp only at hi hx; subst hi
    simp only [fillA] at h
    split at h
    · simp at h
    · rename_i off size hpl
      split at h
      · rename_i hcnd
        obtain ⟨c1, c2, c3⟩ := hcnd
        obtain ⟨k1, k2⟩ := hx.cells (storA_ne c3)
        have k3 := hx.ones c3
        have hsz : v.cells.size = size := by omega
        have hle : off + v.cells.size ≤ vs.size := by omega
        obtain ⟨f1, f2⟩ := foldl_set_arr v.cells off vs hle
        have ih := fill_ok hp ps qs (splice cs off x.cells) (v.cells.zipIdx.foldl (fun cs (c, j) => cs.setIfInBounds (off + j) c) vs) cs' (by simpa using hlen) (fun k p q hpk hqk => hr (k + 1) p q hpk hqk)
          (by rw [f1, splice_len _ _ _ (by omega)]; exact hl)
          (fun j y u hy hu => by
            rw [splice_get _ _ _ (by omega)] at hy
            rw [f2] at hu
            rw [k1] at hy
            split at hy
            · rename_i hj; rw [if_pos hj] at hu; exact ⟨k2 _ _ _ hy hu, k3 _ _ hu⟩
            · rename_i hj; rw [if_neg hj] at hu; exact hc _ _ _ hy hu) h
        obtain ⟨vs', g1, g2, g3, g4⟩ := ih
        refine ⟨vs', ?_, g2, by rw [g3, f1], g4⟩
        simp only [Instr.fill, hp _ _ _ hpl]
        rw [if_neg (by simp; omega)]
        exact g1
      · simp at h

/-- Filling a slice literal. -/
theorem fillE_ok {sz : Nat} (hz : sz ≠ 0) :
    ∀ (ps : List (Nat × AV)) (qs : List (Nat × Value)) (el : List AV) (vs : Array Value) (el' : List AV), ps.length = qs.length →
    (∀ (k : Nat) (p : Nat × AV) (q : Nat × Value), ps[k]? = some p → qs[k]? = some q → p.1 = q.1 ∧ R w G φ A p.2 q.2) → vs.size = el.length * sz →
    (∀ (i : Nat) (x : AV), el[i]? = some x → x.cells.length = sz) →
    (∀ (i : Nat) (x : AV) (j : Nat) (y : AV) (v : Value), el[i]? = some x → x.cells[j]? = some y → vs[i * sz + j]? = some v → R w G φ A y v ∧ v.oneCell' = true) → fillE sz el ps = some el' →
    ∃ vs', Instr.fill (fun i => some (i * sz, sz)) vs qs = some vs' ∧ vs'.size = el'.length * sz ∧ el'.length = el.length ∧ (∀ (i : Nat) (x : AV), el'[i]? = some x → x.cells.length = sz) ∧
      (∀ (i : Nat) (x : AV) (j : Nat) (y : AV) (v : Value), el'[i]? = some x → x.cells[j]? = some y → vs'[i * sz + j]? = some v → R w G φ A y v ∧ v.oneCell' = true)
  | [], [], el, vs, el', _, _, hl, hs, hc, h => by
    simp only [fillE, Option.some.injEq] at h; subst h
    exact ⟨vs, rfl, hl, rfl, hs, hc⟩
  | [], _ :: _, _, _, _, h, _, _, _, _, _ => by simp at h
  | _ :: _, [], _, _, _, h, _, _, _, _, _ => by simp at h
  | (i, x) :: ps, (i', v) :: qs, el, vs, el', hlen, hr, hl, hs, hc, h => by
    obtain ⟨hi, hx⟩ := hr 0 _ _ rfl rfl
    simp only at hi hx; subst hi
    simp only [fillE] at h
    split at h
    · rename_i hcnd
      obtain ⟨c1, c2, c3⟩ := hcnd
      obtain ⟨k1, k2⟩ := hx.cells (storA_ne c3)
      have k3 := hx.ones c3
      have hle0 := mul_lt_le (n := sz) c1
      have hle : i * sz + v.cells.size ≤ vs.size := by omega
      obtain ⟨f1, f2⟩ := foldl_set_arr v.cells (i * sz) vs hle
      have ih := fillE_ok hz ps qs (el.set i x) (v.cells.zipIdx.foldl (fun cs (c, j) => cs.setIfInBounds (i * sz + j) c) vs) el' (by simpa using hlen) (fun k p q hpk hqk => hr (k + 1) p q hpk hqk)
        (by rw [f1, List.length_set]; exact hl)
        (fun k y hy => by
          rw [List.getElem?_set] at hy
          split at hy
          · simp only [Option.some.injEq] at hy
            first | (rw [← hy.2]; exact c2) | (rw [← hy]; exact c2)
          · exact hs _ _ hy)
        (fun k y j u z hy hu hz' => by
          rw [f2] at hz'
          have hjlt : j < y.cells.length := (List.getElem?_eq_some_iff.1 hu).1
          rw [List.getElem?_set] at hy
          split at hy
          · rename_i hk; subst hk
            simp only [Option.some.injEq] at hy
            have hxy : x = y := by first | exact hy.2 | exact hy
            subst hxy
            rw [if_pos (by omega)] at hz'
            have : i * sz + j - i * sz = j := by omega
            rw [this] at hz'
            exact ⟨k2 _ _ _ hu hz', k3 _ _ hz'⟩
          · rename_i hk
            have hj2 : j < sz := by rw [← hs k y hy]; exact hjlt
            rw [if_neg (by
              intro hh
              rcases Nat.lt_or_gt_of_ne hk with h1 | h1
              · have := mul_lt_le (n := sz) h1; omega
              · have := mul_lt_le (n := sz) h1; omega)] at hz'
            exact hc _ _ _ _ _ hy hu hz') h
      obtain ⟨vs', g1, g2, g3, g4, g5⟩ := ih
      refine ⟨vs', ?_, g2, by rw [g3, List.length_set], g4, g5⟩
      simp only [Instr.fill]
      rw [if_neg (by simp; omega)]
      exact g1
    · simp at h

theorem parts_ok {_E : TEnv} {s : Frm} {ρ : Operand → Value} {parts : Array (Nat × Operand)} (hρ : ∀ p ∈ parts.toList, R w G φ A (ev s p.2) (ρ p.2)) :
    (parts.toList.map fun p => (p.1, ev s p.2)).length = ((parts.map fun (i, x) => (i, ρ x)).toList).length ∧
    ∀ (k : Nat) (p : Nat × AV) (q : Nat × Value), (parts.toList.map fun p => (p.1, ev s p.2))[k]? = some p → ((parts.map fun (i, x) => (i, ρ x)).toList)[k]? = some q → p.1 = q.1 ∧ R w G φ A p.2 q.2 := by
  refine ⟨by simp, fun k p q hp hq => ?_⟩
  simp only [Array.toList_map, List.getElem?_map, Option.map_eq_some_iff] at hp hq
  obtain ⟨a, ha, rfl⟩ := hp
  obtain ⟨b, hb, rfl⟩ := hq
  rw [ha] at hb
  simp only [Option.some.injEq] at hb; subst hb
  exact ⟨rfl, hρ a (List.mem_of_getElem? ha)⟩

theorem run_mapM {α β : Type} (f : α → Sem β) (g : α → β) (xs : Array α) (h : ∀ x ∈ xs.toList, (f x).run P w = .ok (g x) w) : (xs.mapM f).run P w = .ok (xs.map g) w := by
  rw [Array.mapM_eq_mapM_toList, Sem.run_map]
  have : ∀ l : List α, (∀ x ∈ l, (f x).run P w = .ok (g x) w) → (l.mapM f).run P w = .ok (l.map g) w := by
    intro l
    induction l with
    | nil => intro _; simp
    | cons x l ih =>
      intro h
      simp [h x (by simp), ih (fun y hy => h y (by simp [hy]))]
  rw [this _ h]
  simp only [Result.andThen_ok]
  congr 1
  apply Array.ext'; simp

include hE in
theorem q_build {H0 H' : Heap} {t : TypeId} {parts : Array (Nat × Operand)} {s : Frm} {ρ : Operand → Value} {z : AV} (hρ : ∀ p ∈ parts.toList, R w G φ A (ev s p.2) (ρ p.2))
    (h : (match E t with
    | some ti => match ti.und with
      | .st fs => if !(fs.all fun f => (E f.2).isSome) || !(ti.zero.all stor1) then none else
          (match ((fillA (fun i => match fs[i]? with | some (o, ft) => (E ft).map fun tf => (o, tf.sz) | none => none) ti.zero (parts.toList.map fun p => (p.1, ev s p.2))).map AV.agg) with | some v => some (v, H0) | none => none)
      | .ar n e => match E e with
        | some te => if !(ti.zero.all stor1) then none else
          (match ((fillA (fun i => if i < n then some (i * te.sz, te.sz) else none) ti.zero (parts.toList.map fun p => (p.1, ev s p.2))).map AV.agg) with | some v => some (v, H0) | none => none)
        | none => none
      | _ => none
    | none => none) = some (z, H')) : ∃ v, (Instr.build t (parts.map fun (i, x) => (i, ρ x))).run P w = .ok v w ∧ R w G φ A z v := by
  obtain ⟨p1, p2⟩ := parts_ok (_E := E) hρ
  split at h
  · rename_i ti h1
    have hT := hE _ _ h1
    obtain ⟨zv, z1, z2, z3, z4, z5⟩ := hT.zeroValue w
    have hzl : ti.zero.length = zv.cells.size := by rw [z5]; simp
    have hzr : ∀ (j : Nat) (y : AV) (v : Value), ti.zero[j]? = some y → zv.cells[j]? = some v → R w G φ A y v ∧ v.oneCell' = true := by
      intro j y v hy hv
      rw [z5] at hy
      simp only [List.getElem?_map, Option.map_eq_some_iff, Array.getElem?_toList] at hy
      obtain ⟨u, hu, rfl⟩ := hy
      rw [hv] at hu
      simp only [Option.some.injEq] at hu; subst hu
      exact ⟨.fr _ _ (FR.ofValue w A v), z4 j v hv⟩
    split at h
    · rename_i fs hu
      split at h
      · simp at h
      · rename_i hall
        simp only [Bool.or_eq_true, Bool.not_eq_true', not_or, Bool.not_eq_false] at hall
        split at h
        · rename_i v hv
          simp only [Option.some.injEq, Prod.mk.injEq] at h
          obtain ⟨rfl, rfl⟩ := h
          simp only [Option.map_eq_some_iff] at hv
          obtain ⟨cs', hcs, rfl⟩ := hv
          obtain ⟨gs, hg, hfs, _, _⟩ := hT.und_st w hu
          let sizeF : Field → Nat := fun f => ((E f.type).map (·.sz)).getD 0
          have hsz : ∀ f ∈ gs.toList, (E f.type).isSome := by
            intro f hf
            have := List.all_eq_true.1 hall.1 (f.offset, f.type) (by rw [hfs]; exact List.mem_map.2 ⟨f, hf, rfl⟩)
            exact this
          have hm : (gs.mapM fun f => (do pure (f.offset, ← sizeOf f.type) : Sem (Nat × Nat))).run P w = .ok (gs.map fun f => (f.offset, sizeF f)) w := by
            refine run_mapM _ _ _ fun f hf => ?_
            obtain ⟨tf, htf⟩ := Option.isSome_iff_exists.1 (hsz f hf)
            simp [(hE _ _ htf).sizeOf, sizeF, htf]
          obtain ⟨vs', f1, f2, f3, f4⟩ := fill_ok (placeC := ((gs.map fun f => (f.offset, sizeF f))[·]?)) (fun i o sz hpl => by
            split at hpl
            · rename_i o' ft hfi
              simp only [Option.map_eq_some_iff, Prod.mk.injEq] at hpl
              obtain ⟨tf, htf, rfl, rfl⟩ := hpl
              rw [hfs] at hfi
              simp only [List.getElem?_map, Option.map_eq_some_iff, Prod.mk.injEq, Array.getElem?_toList] at hfi
              obtain ⟨g, hg1, rfl, rfl⟩ := hfi
              simp [hg1, sizeF, htf]
            · simp at hpl) _ _ _ zv.cells _ p1 p2 hzl hzr hcs
          refine ⟨.agg vs', ?_, .agg _ _ f2 (fun j v hv => ?_) fun i x v hx hv => (f4 i x v hx hv).1⟩
          · simp only [Instr.build, Sem.run_bind, z1, Result.andThen_ok, hg, hm, f1, Sem.run_pure]
          · have hj : j < cs'.length := by rw [f2]; exact (Array.getElem?_eq_some_iff.1 hv).1
            exact (f4 j _ v (List.getElem?_eq_getElem hj) hv).2
        · simp at h
    · rename_i n e hu
      split at h
      · rename_i te h2
        split at h
        · simp at h
        · split at h
          · rename_i v hv
            simp only [Option.some.injEq, Prod.mk.injEq] at h
            obtain ⟨rfl, rfl⟩ := h
            simp only [Option.map_eq_some_iff] at hv
            obtain ⟨cs', hcs, rfl⟩ := hv
            obtain ⟨vs', f1, f2, f3, f4⟩ := fill_ok (placeC := fun i => some (i * te.sz, te.sz)) (fun i o sz hpl => by
              split at hpl
              · exact hpl
              · simp at hpl) _ _ _ zv.cells _ p1 p2 hzl hzr hcs
            refine ⟨.agg vs', ?_, .agg _ _ f2 (fun j v hv => ?_) fun i x v hx hv => (f4 i x v hx hv).1⟩
            · simp only [Instr.build, Sem.run_bind, z1, Result.andThen_ok, hT.und_ar w hu, (hE _ _ h2).sizeOf, f1, Sem.run_pure]
            · have hj : j < cs'.length := by rw [f2]; exact (Array.getElem?_eq_some_iff.1 hv).1
              exact (f4 j _ v (List.getElem?_eq_getElem hj) hv).2
          · simp at h
      · simp at h
    · simp at h
  · simp at h

theorem elTI_inv {t : TypeId} {te : TI} (h : elTI E t = some te) : ∃ ti e, E t = some ti ∧ ti.und = .sl e ∧ E e = some te := by
  unfold elTI at h
  split at h
  · rename_i ti ht
    split at h
    · rename_i e hu; exact ⟨ti, e, ht, hu, h⟩
    · simp at h
  · simp at h

include hE in
theorem q_buildSlice {H0 H' : Heap} (hst : St w G φ A) (hX : Ext H' G) (hnew : H0.bs.length < H'.bs.length → φ H0.bs.length = none) {t : TypeId} {len : Nat} {parts : Array (Nat × Operand)} {s : Frm} {ρ : Operand → Value} {z : AV}
    (hρ : ∀ p ∈ parts.toList, R w G φ A (ev s p.2) (ρ p.2))
    (h : (match elTI E t with
    | some te => if len = 0 then (if parts.size = 0 then some (AV.e0, H0) else none) else
      match zeroA te with
      | some z => if len * te.sz ≤ 1000000 ∧ te.sz ≠ 0 then
          match fillE te.sz (List.replicate len z) (parts.toList.map fun p => (p.1, ev s p.2)) with
          | some el => some (.ref H0.bs.length H0.st 0 len, H0.new te.sz false el)
          | none => none
        else none
      | none => none
    | none => none) = some (z, H')) : QRes w G φ A H0 H' ((do pure (.value (← Instr.buildSlice t len (parts.map fun (i, x) => (i, ρ x)))) : Sem Next).run P w) z := by
  obtain ⟨p1, p2⟩ := parts_ok (_E := E) hρ
  split at h
  · rename_i te hte
    obtain ⟨ti, e, ht, hu, hee⟩ := elTI_inv hte
    have hu1 := (hE _ _ ht).sl w hu
    split at h
    · rename_i hl0
      subst hl0
      split at h
      · rename_i hps
        simp only [Option.some.injEq, Prod.mk.injEq] at h
        obtain ⟨rfl, rfl⟩ := h
        have hpe : parts = #[] := Array.eq_empty_of_size_eq_zero hps
        subst hpe
        refine ⟨_, .slice (some ⟨w.heap.size, 0, none⟩) 0 0, w.alloc (.cells #[] e), φ, A, ?_, .inl rfl, .fr _ _ (.e0 _), allocOut0 hst _, fun _ _ h => .inl h⟩
        have hr0 : Array.range 0 = #[] := by simp
        simp [Instr.buildSlice, hu1, (hE _ _ hee).sizeOf, Instr.fill, newRow, hr0]
      · simp at h
    · rename_i hl0
      split at h
      · rename_i zA hz
        split at h
        · rename_i hc
          split at h
          · rename_i el hel
            simp only [Option.some.injEq, Prod.mk.injEq] at h
            obtain ⟨rfl, rfl⟩ := h
            obtain ⟨zv, z1, z2, z3, z4, _, z5⟩ := zero_ok (hE _ _ hee) hz w
            have hne : ¬ (len * te.sz = 0) := by
              intro h0
              rcases Nat.mul_eq_zero.1 h0 with h0 | h0 <;> omega
            obtain ⟨vs', f1, f2, f3, f4, f5⟩ := fillE_ok (w := w) (G := G) (φ := φ) (A := A) hc.2 _ _ (List.replicate len zA) ((Array.range (len * te.sz)).map (fun k => zv.cells[k % zv.cells.size]!)) _ p1 p2
              (by simp) (fun i x hx => by
                simp only [List.getElem?_replicate] at hx
                split at hx
                · simp only [Option.some.injEq] at hx; subst hx; rw [z3, z4]
                · simp at hx)
              (fun i x j y v hx hy hv => by
                simp only [List.getElem?_replicate] at hx
                split at hx
                · rename_i hi
                  simp only [Option.some.injEq] at hx; subst hx
                  rw [z3] at hy
                  have hj : j < te.sz := by rw [← z4]; exact (List.getElem?_eq_some_iff.1 hy).1
                  have := z5 w A j y v hy (rep_cells z2 hi hj hv)
                  exact ⟨.fr _ _ this.1, this.2⟩
                · simp at hx) hel
            have hlen : el.length = len := by rw [f3]; simp
            obtain ⟨φ', A', hout, hφ, hid⟩ := newOut (arr := vs') e hst hX (hnew (by simp [Heap.new])) f4 (by rw [f2]; exact Nat.le_refl _) f5
            have hg := hX.1 _ _ (Heap.get_new H0 te.sz false el)
            refine ⟨_, .slice (some ⟨w.heap.size, 0, none⟩) len len, w.alloc (.cells vs' e), φ', A', ?_, .inl rfl,
              ref_new hg (Nat.lt_of_lt_of_le (Nat.lt_succ_self _) hX.2) hφ (by simp [hlen]) (Nat.le_refl _) (by simp [hlen]) (by rw [bsz_new, f2, hlen]; exact Nat.le_refl _), hout, hid⟩
            have h24 : ¬ (len * te.sz > 2 ^ 24) := by omega
            simp only [Instr.buildSlice, Sem.run_bind, hu1, Result.andThen_ok, (hE _ _ hee).sizeOf, h24, hne, if_false, z1, f1, Sem.run_pure, newRow, run_newObj, World.alloc_eq]
          · simp at h
        · simp at h
      · simp at h
  · simp at h
end ops
end Go.VS
