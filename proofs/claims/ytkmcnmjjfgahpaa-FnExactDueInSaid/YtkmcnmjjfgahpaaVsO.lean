/-
  VS, part 15: what writes: stores, append, copy, clear.
-/
import Derived.Test.YtkmcnmjjfgahpaaVsN
namespace Go.VS

/-- One row of cells has turned. -/
structure Upd (w : World) (c : Nat) (o : Obj) (w' : World) : Prop where
  here : w'.heap[c]? = some o
  other : ∀ k, k ≠ c → w'.heap[k]? = w.heap[k]?
  size : w'.heap.size = w.heap.size
  os : w'.os = w.os
  tape : w'.tape = w.tape
  output : w'.output = w.output

theorem setCell_upd {w : World} {c : Nat} {arr : Array Value} {T : TypeId} {fr : Nat × Nat} (h : w.heap[c]? = some (.cells arr T fr)) (p : Nat) (v : Value) :
    Upd w c (.cells (arr.setIfInBounds p v) T fr) (w.setCell ⟨c, p, none⟩ v) := by
  refine ⟨?_, fun k hk => ?_, by simp, rfl, rfl, rfl⟩
  · simp only [World.setCell, Array.getElem?_modify, if_true, h, Option.map_some]; rfl
  · simp only [World.setCell, Array.getElem?_modify]
    rw [if_neg (fun e => hk e.symm)]

/-- Cells written one behind the other. -/
theorem run_storeCells (P : Program) (c p : Nat) (T : TypeId) (fr : Nat × Nat) : ∀ (vs : List Value) (i : Nat) (arr : Array Value) (w : World), w.heap[c]? = some (.cells arr T fr) →
    (∀ j, j < arr.size → ¬ (fr.1 ≤ j ∧ j < fr.2)) → p + i + vs.length ≤ arr.size → (∀ u ∈ vs, u.oneCell' = true) →
    ∃ w' arr', (storeCells ⟨c, p, none⟩ vs i).run P w = .ok () w' ∧ Upd w c (.cells arr' T fr) w' ∧ arr'.size = arr.size ∧
      ∀ m, arr'[m]? = if p + i ≤ m ∧ m < p + i + vs.length then vs[m - (p + i)]? else arr[m]?
  | [], i, arr, w, h, _, _, _ => ⟨w, arr, by simp [storeCells], ⟨h, fun _ _ => rfl, rfl, rfl, rfl, rfl⟩, rfl, fun m => by rw [if_neg (by simp only [List.length_nil]; omega)]⟩
  | v :: vs, i, arr, w, h, hf, hl, ho => by
    simp only [List.length_cons] at hl
    have hlt : p + i < arr.size := by omega
    have hc : w.cell? ⟨c, p + i, none⟩ = some arr[p + i] := by rw [cell_at h]; exact Array.getElem?_eq_getElem hlt
    have hfr : w.frozen? ⟨c, p + i, none⟩ = false := by
      unfold World.frozen?
      simp only [h]
      have := hf (p + i) hlt
      simp only [Bool.and_eq_false_iff, decide_eq_false_iff_not]
      by_cases h1 : fr.1 ≤ p + i
      · right; exact fun h2 => this ⟨h1, h2⟩
      · left; exact h1
    have hu := setCell_upd h (p + i) v
    obtain ⟨w', arr', e1, e2, e3, e4⟩ := run_storeCells P c p T fr vs (i + 1) (arr.setIfInBounds (p + i) v) (w.setCell ⟨c, p + i, none⟩ v) hu.here (by simpa using hf) (by simp; omega) (fun u hu => ho u (by simp [hu]))
    refine ⟨w', arr', ?_, ⟨e2.here, fun k hk => (e2.other k hk).trans (hu.other k hk), e2.size.trans hu.size, e2.os.trans hu.os, e2.tape.trans hu.tape, e2.output.trans hu.output⟩, by rw [e3]; simp, fun m => ?_⟩
    · simp only [storeCells, Sem.run_bind, add_none, run_store P w ⟨c, p + i, none⟩ v .plain (ho v (by simp)), hc, hfr, Bool.false_eq_true, if_false, Result.andThen_ok]
      exact e1
    · rw [e4, Array.getElem?_setIfInBounds]
      simp only [List.length_cons]
      by_cases hm : m = p + i
      · subst hm
        rw [if_neg (by omega)]
        simp only [if_true]
        rw [if_pos hlt, if_pos (by omega)]
        simp
      · by_cases hm2 : p + (i + 1) ≤ m ∧ m < p + (i + 1) + vs.length
        · rw [if_pos hm2, if_pos (by omega)]
          obtain ⟨q, rfl⟩ : ∃ q, m = p + i + 1 + q := ⟨m - (p + i + 1), by omega⟩
          have e1 : p + i + 1 + q - (p + (i + 1)) = q := by omega
          have e2 : p + i + 1 + q - (p + i) = q + 1 := by omega
          rw [e1, e2]; rfl
        · rw [if_neg hm2, if_neg (by omega), if_neg (by omega)]

theorem Heap.get_upd {H : Heap} {id : Nat} {b0 b : Blk} (h : H.get id = some b0) (k : Nat) : (H.upd id b).get k = if k = id then some b else H.get k := by
  have hlt := Heap.get_lt h
  unfold Heap.upd Heap.get
  simp only [List.getElem?_set]
  by_cases hk : id = k
  · subst hk; simp [hlt]
  · rw [if_neg hk, if_neg (fun e => hk e.symm)]

section ops
variable {P : Program} {E : TEnv}
variable {w : World} {H : Heap} {φ : Phi} {A : Avoid}

def MRes (w : World) (H : Heap) (φ : Phi) (A : Avoid) (H' : Heap) (r : Result Next) (x : AV) : Prop :=
  ∃ n v w' φ' A', r = .ok n w' ∧ (n = .value v ∨ (n = .skip ∧ v = undef)) ∧ R w' H' φ' A' x v ∧ Out w H φ A w' H' φ' A'

/-- A block whose cells have turned, in place. -/
theorem updOut (hst : St w H φ A) {id : Nat} {b b' : Blk} {c b0 : Nat} (hg : H.get id = some b) (hφ : φ id = some (.at_ c b0)) (hv : b'.ver = b.ver) (hs : b'.sz = b.sz) (hf : b'.fix = b.fix) (hl : b'.el.length = b.el.length)
    {arr arr' : Array Value} {T : TypeId} {fr : Nat × Nat} {w' : World} (hc : w.heap[c]? = some (.cells arr T fr)) (hu : Upd w c (.cells arr' T fr) w') (hsz : arr'.size = arr.size)
    (hsd : ∀ (i : Nat) (x : AV), b'.el[i]? = some x → x.cells.length = b.sz)
    (hcells : ∀ (i : Nat) (x : AV) (j : Nat) (y : AV) (v : Value), b'.el[i]? = some x → x.cells[j]? = some y → arr'[b0 + i * b.sz + j]? = some v → R w H φ A y v ∧ v.oneCell' = true) :
    Out w H φ A w' (H.upd id b') φ A := by
  have hbsz : ∀ k, bsz w' k = bsz w k := by
    intro k
    unfold bsz
    by_cases hk : k = c
    · subst hk; rw [hu.here, hc]; exact hsz
    · rw [hu.other k hk]
  have hpost : Post w φ w' φ := ⟨hu.os, hu.tape, hu.output, by rw [hu.size]; exact Nat.le_refl _, fun k _ hk => hu.other k (fun e => hk (e ▸ ⟨id, b0, hφ⟩)), fun k _ => hbsz k, fun k hk => .inl hk⟩
  have hevo : Evo w H φ A w' (H.upd id b') φ A := by
    refine ⟨fun k a t r hk hn => ⟨⟨r, by rw [hu.other k (fun e => hn (e ▸ hst.own c ⟨id, b0, hφ⟩))]; exact hk⟩, hn⟩, Nat.le_refl _, fun i bb hb _ => ?_, fun k _ => hbsz k⟩
    rw [Heap.get_upd hg] at hb
    split at hb
    · rename_i hi; subst hi
      simp only [Option.some.injEq] at hb; subst hb
      exact ⟨b, hg, hv.symm, hs, hf, hl, fun loc h => h⟩
    · exact ⟨bb, hb, rfl, rfl, rfl, rfl, fun loc h => h⟩
  refine ⟨⟨hst.inj, hst.own, fun k hk => by rw [hu.size]; exact hst.bnd k hk, fun i loc hl' => ?_⟩, hpost, hevo, fun k hk _ => hk⟩
  obtain ⟨bb, hgb, hok⟩ := hst.blk i loc hl'
  by_cases hi : i = id
  · subst hi
    rw [hg] at hgb
    simp only [Option.some.injEq] at hgb; subst hgb
    rw [hφ] at hl'
    simp only [Option.some.injEq] at hl'; subst hl'
    obtain ⟨a0, t0, r0, k1, k2, k3, k4⟩ := hok.here c b0 rfl
    rw [hc] at k1
    simp only [Option.some.injEq, Obj.cells.injEq] at k1
    obtain ⟨rfl, rfl, rfl⟩ := k1
    refine ⟨b', by rw [Heap.get_upd hg, if_pos rfl], by rw [hv]; exact hok.ver, fun j x hx => by rw [hs]; exact hsd j x hx, by simp, fun c' b1 he => ?_⟩
    simp only [Loc.at_.injEq] at he
    obtain ⟨rfl, rfl⟩ := he
    refine ⟨arr', T, fr, hu.here, by rw [hsz]; exact k2, by rw [hl, hs, hsz]; exact k3, fun j x m y v hx hy hvv => ?_⟩
    rw [hs] at hvv
    obtain ⟨h1, h2⟩ := hcells j x m y v hx hy hvv
    exact ⟨h1.mono hevo, h2⟩
  · refine ⟨bb, by rw [Heap.get_upd hg, if_neg hi]; exact hgb, hok.ver, hok.sized, hok.virt, fun c' b1 he => ?_⟩
    subst he
    have hne : c' ≠ c := by rintro rfl; exact hi (hst.inj _ _ _ _ _ hl' hφ)
    obtain ⟨a0, t0, r0, k1, k2, k3, k4⟩ := hok.here c' b1 rfl
    exact ⟨a0, t0, r0, by rw [hu.other c' hne]; exact k1, k2, k3, fun j x m y v hx hy hvv => ⟨(k4 j x m y v hx hy hvv).1.mono hevo, (k4 j x m y v hx hy hvv).2⟩⟩

/-- A block that has got a new life: other elements, maybe elsewhere in memory. -/
theorem growOut (hst : St w H φ A) {id : Nat} {b b' : Blk} (hg : H.get id = some b) (hv : b'.ver = H.st)
    {c b0 : Nat} {arr' : Array Value} {T : TypeId} {fr : Nat × Nat} {w' : World} (hc : Ow φ c ∧ (∃ bx, φ id = some (.at_ c bx)) ∨ w.heap.size ≤ c) (hu : w'.heap[c]? = some (.cells arr' T fr))
    (hoth : ∀ k, k < w.heap.size → k ≠ c → w'.heap[k]? = w.heap[k]?) (hsize : w.heap.size ≤ w'.heap.size) (hos : w'.os = w.os) (htape : w'.tape = w.tape) (hout : w'.output = w.output)
    (hbs : c < w.heap.size → arr'.size = bsz w c) (hfr : ∀ j, j < arr'.size → ¬ (fr.1 ≤ j ∧ j < fr.2)) (hfit : b0 + b'.el.length * b'.sz ≤ arr'.size)
    (hsd : ∀ (i : Nat) (x : AV), b'.el[i]? = some x → x.cells.length = b'.sz)
    (hcells : ∀ (i : Nat) (x : AV) (j : Nat) (y : AV) (v : Value), b'.el[i]? = some x → x.cells[j]? = some y → arr'[b0 + i * b'.sz + j]? = some v → R w H φ A y v ∧ v.oneCell' = true) :
    Out w H φ A w' ⟨H.st + 1, H.bs.set id (some b')⟩ (fun i => if i = id then some (.at_ c b0) else φ i) (fun k => A k ∨ k = c) := by
  have hget : ∀ k, (Heap.mk (H.st + 1) (H.bs.set id (some b'))).get k = if k = id then some b' else H.get k := fun k => Heap.get_upd hg k
  have hbsz : ∀ k, k < w.heap.size → bsz w' k = bsz w k := by
    intro k hk
    by_cases hkc : k = c
    · subst hkc; rw [← hbs hk]; unfold bsz; rw [hu]
    · unfold bsz; rw [hoth k hk hkc]
  have hOw : ∀ k, Ow (fun i => if i = id then some (.at_ c b0) else φ i) k → Ow φ k ∨ k = c := by
    rintro k ⟨i, bb, h⟩
    try simp only at h
    split at h
    · simp only [Option.some.injEq, Loc.at_.injEq] at h; exact .inr h.1.symm
    · exact .inl ⟨i, bb, h⟩
  have hcl : c < w'.heap.size := lt_of_heap hu
  have hpost : Post w φ w' (fun i => if i = id then some (.at_ c b0) else φ i) := by
    refine ⟨hos, htape, hout, hsize, fun k hk hn => hoth k hk (fun e => ?_), hbsz, fun k hk => ?_⟩
    · subst e
      rcases hc with h | h
      · exact hn h.1
      · omega
    · rcases hOw k hk with h | rfl
      · exact .inl h
      · rcases hc with h | h
        · exact .inl h.1
        · exact .inr h
  have hevo : Evo w H φ A w' ⟨H.st + 1, H.bs.set id (some b')⟩ (fun i => if i = id then some (.at_ c b0) else φ i) (fun k => A k ∨ k = c) := by
    refine ⟨fun k a t r hk hn => ?_, Nat.le_succ _, fun i bb hb hlt => ?_, fun k hk => hbsz k (Ow.lt hst hk)⟩
    · have hlt := lt_of_heap hk
      have hkc : k ≠ c := by
        rintro rfl
        rcases hc with h | h
        · exact hn (hst.own _ h.1)
        · omega
      exact ⟨⟨r, by rw [hoth k hlt hkc]; exact hk⟩, fun h => by rcases h with h | h; exact hn h; exact hkc h⟩
    · rw [hget] at hb
      split at hb
      · simp only [Option.some.injEq] at hb; subst hb; omega
      · rename_i hi
        exact ⟨bb, hb, rfl, rfl, rfl, rfl, fun loc h => by rw [if_neg hi]; exact h⟩
  refine ⟨⟨fun i i' k b1 b2 h1 h2 => ?_, fun k hk => ?_, fun k hk => ?_, fun i loc hl' => ?_⟩, hpost, hevo, fun k hk _ => .inl hk⟩
  · try simp only at h1 h2
    have key : ∀ {i k b1}, i ≠ id → φ i = some (.at_ k b1) → k ≠ c := by
      rintro i k b1 hi h rfl
      rcases hc with ⟨_, bx, h2⟩ | h2
      · exact hi (hst.inj _ _ _ _ _ h h2)
      · have := Ow.lt hst ⟨i, b1, h⟩; omega
    split at h1
    · rename_i hi
      split at h2
      · rename_i hi'; omega
      · rename_i hi'
        simp only [Option.some.injEq, Loc.at_.injEq] at h1
        exact absurd h1.1.symm (key hi' h2)
    · rename_i hi
      split at h2
      · simp only [Option.some.injEq, Loc.at_.injEq] at h2
        exact absurd h2.1.symm (key hi h1)
      · exact hst.inj _ _ _ _ _ h1 h2
  · rcases hOw k hk with h | h
    · exact .inl (hst.own k h)
    · exact .inr h
  · rcases hk with h | rfl
    · have := hst.bnd k h; omega
    · exact hcl
  · try simp only at hl'
    split at hl'
    · rename_i hi; subst hi
      simp only [Option.some.injEq] at hl'; subst hl'
      refine ⟨b', by rw [hget, if_pos rfl], by rw [hv]; exact Nat.lt_succ_self _, hsd, by simp, fun c' b1 he => ?_⟩
      simp only [Loc.at_.injEq] at he
      obtain ⟨rfl, rfl⟩ := he
      refine ⟨arr', T, fr, hu, hfr, hfit, fun j x m y v hx hy hvv => ?_⟩
      obtain ⟨h1, h2⟩ := hcells j x m y v hx hy hvv
      exact ⟨h1.mono hevo, h2⟩
    · rename_i hi
      obtain ⟨bb, hgb, hok⟩ := hst.blk i loc hl'
      refine ⟨bb, by rw [hget, if_neg hi]; exact hgb, Nat.lt_succ_of_lt hok.ver, hok.sized, hok.virt, fun c' b1 he => ?_⟩
      subst he
      have hne : c' ≠ c := by
        rintro rfl
        rcases hc with ⟨_, bx, h2⟩ | h2
        · exact hi (hst.inj _ _ _ _ _ hl' h2)
        · have := Ow.lt hst ⟨i, b1, hl'⟩; omega
      obtain ⟨a0, t0, r0, k1, k2, k3, k4⟩ := hok.here c' b1 rfl
      exact ⟨a0, t0, r0, by rw [hoth c' (lt_of_heap k1) hne]; exact k1, k2, k3, fun j x m y v hx hy hvv => ⟨(k4 j x m y v hx hy hvv).1.mono hevo, (k4 j x m y v hx hy hvv).2⟩⟩
end ops
end Go.VS
