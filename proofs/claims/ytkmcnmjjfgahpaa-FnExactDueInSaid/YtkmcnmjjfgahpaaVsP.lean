/-
  VS, part 16: what writes, against the machine.
-/
import Derived.Test.YtkmcnmjjfgahpaaVsO
namespace Go.VS

theorem wrAt_cells {y v y' : AV} {off : Nat} (h : wrAt y off v = some y') (hv : storA v = true) : off + v.cells.length ≤ y.cells.length ∧ y'.cells = splice y.cells off v.cells := by
  cases y with
  | agg cs =>
    simp only [wrAt] at h
    split at h
    · rename_i hle
      simp only [Option.some.injEq] at h; subst h
      exact ⟨hle, rfl⟩
    · simp at h
  | undef => simp [wrAt] at h
  | _ =>
    cases v <;> simp only [wrAt] at h <;> first
      | (simp at h; done)
      | (simp [storA, stor1] at hv; done)
      | (split at h
         · rename_i ho
           simp only [Option.some.injEq] at h; subst h; subst ho
           exact ⟨by simp [AV.cells], by simp [AV.cells, splice]⟩
         · simp at h)

section ops
variable {P : Program} {E : TEnv} (hE : ∀ t ti, E t = some ti → TyOK P t ti)
variable {w : World} {H : Heap} {φ : Phi} {A : Avoid}

include hE in
theorem m_store {H' : Heap} (hst : St w H φ A) {t : TypeId} {x v z : AV} {a u : Value} (hx : R w H φ A x a) (hv : R w H φ A v u)
    (h : (match (generalizing := false) E t with
    | some ti => match (generalizing := false) x with
      | .ptr id ver idx off => match H.blk id ver with
        | some b => match b.el[idx]? with
          | some y => if v.cells.length = ti.sz ∧ storA v then match wrAt y off v with
              | some y' => some (AV.tup [], H.upd id { b with el := b.el.set idx y' })
              | none => none
            else none
          | none => none
        | none => none
      | _ => none
    | none => none) = some (z, H')) : MRes w H φ A H' ((do Instr.storeAt t a u; pure .skip : Sem Next).run P w) z := by
  split at h
  · rename_i ti h1
    split at h
    · rename_i id ver idx off
      split at h
      · rename_i b hb
        split at h
        · rename_i y hy
          split at h
          · rename_i hc
            split at h
            · rename_i y' hw
              simp only [Option.some.injEq, Prod.mk.injEq] at h
              obtain ⟨rfl, rfl⟩ := h
              obtain ⟨_, _, hp⟩ := hx.ptr_inv
              obtain ⟨c, b0, hφ, rfl⟩ := hp b hb
              obtain ⟨b1, hg1, hok⟩ := hst.blk id _ hφ
              have hg := (Heap.blk_get hb).1
              rw [hg] at hg1
              simp only [Option.some.injEq] at hg1; subst hg1
              obtain ⟨arr, T, fr, k1, k2, k3, k4⟩ := hok.here c b0 rfl
              obtain ⟨w1, w2⟩ := wrAt_cells hw hc.2
              obtain ⟨m1, m2⟩ := hv.cells (storA_ne hc.2)
              have m3 := hv.ones hc.2
              have hil : idx < b.el.length := (List.getElem?_eq_some_iff.1 hy).1
              have hle := mul_lt_le (n := b.sz) hil
              have hys := hok.sized idx y hy
              obtain ⟨w', arr', e1, e2, e3, e4⟩ := run_storeCells P c (b0 + idx * b.sz + off) T fr u.cells.toList 0 arr w k1 k2 (by simp; omega) (fun q hq => by
                obtain ⟨k, hk⟩ := List.getElem?_of_mem hq
                exact m3 k q (by simpa using hk))
              have hy'l : y'.cells.length = b.sz := by rw [w2, splice_len _ _ _ w1, hys]
              have hset : ∀ (i : Nat) (q : AV), (b.el.set idx y')[i]? = some q → (i = idx ∧ q = y') ∨ (i ≠ idx ∧ b.el[i]? = some q) := by
                intro i q hq
                rw [List.getElem?_set] at hq
                split at hq
                · rename_i hi
                  first
                    | (rw [if_pos hil] at hq; simp only [Option.some.injEq] at hq; exact .inl ⟨hi.symm, hq.symm⟩)
                    | (simp only [Option.some.injEq] at hq; exact .inl ⟨hi.symm, hq.symm⟩)
                · rename_i hi; exact .inr ⟨fun e => hi e.symm, hq⟩
              have hout := updOut (b' := { b with el := b.el.set idx y' }) hst hg hφ rfl rfl rfl (by simp) k1 e2 e3
                (fun i q hq => by rcases hset i q hq with ⟨rfl, rfl⟩ | ⟨_, hq⟩; exact hy'l; exact hok.sized i q hq)
                (fun i q j s v' hq hs hv' => by
                  rw [e4] at hv'
                  simp only [Nat.add_zero, Array.length_toList] at hv'
                  rcases hset i q hq with ⟨rfl, rfl⟩ | ⟨hne, hq⟩
                  · rw [w2, splice_get _ _ _ w1] at hs
                    rw [m1] at hs
                    by_cases hj : off ≤ j ∧ j < off + u.cells.size
                    · rw [if_pos hj] at hs
                      rw [if_pos (by omega)] at hv'
                      have e5 : b0 + i * b.sz + j - (b0 + i * b.sz + off) = j - off := by omega
                      rw [e5] at hv'
                      exact ⟨m2 _ _ _ hs (by simpa using hv'), m3 _ _ (by simpa using hv')⟩
                    · rw [if_neg hj] at hs
                      rw [if_neg (by omega)] at hv'
                      exact k4 i y j s v' hy hs hv'
                  · have hil2 : i < b.el.length := (List.getElem?_eq_some_iff.1 hq).1
                    have hjl : j < q.cells.length := (List.getElem?_eq_some_iff.1 hs).1
                    have hql := hok.sized i q hq
                    rw [if_neg (by
                      intro hh
                      rcases Nat.lt_or_gt_of_ne hne with h1 | h1
                      · have := mul_lt_le (n := b.sz) h1; omega
                      · have := mul_lt_le (n := b.sz) h1; omega)] at hv'
                    exact k4 i q j s v' hq hs hv')
              refine ⟨.skip, undef, w', φ, A, ?_, .inr ⟨rfl, rfl⟩, .fr _ _ (.tup [] #[] rfl (by simp)), hout⟩
              have hsz : ¬ (u.cells.size ≠ ti.sz) := by rw [← m1]; simp [hc.1]
              simp only [Instr.storeAt, Instr.sureAddr, storeVar, Sem.run_bind, Sem.run_pure, Result.andThen_ok, (hE _ _ h1).sizeOf, hsz, if_false, e1]
            · simp at h
          · simp at h
        · simp at h
      · simp at h
    · simp at h
  · simp at h

/-- A slice in the heap that is written from a place on. -/
theorem span_ok (hst : St w H φ A) {id ver off len : Nat} {a : Value} (hx : R w H φ A (.ref id ver off len) a) {b : Blk} (hb : H.blk id ver = some b) {at_ n : Nat} (h1 : at_ + n ≤ b.el.length) (h2 : off ≤ at_) (hn : 0 < n) (_hlen : 0 < len ∨ b.el.length ≤ off + len ∨ True)
    {xs : List AV} (hxl : xs.length = n) {cs : Array Value} (hsz : cs.size = n * b.sz) (hone : ∀ u ∈ cs.toList, u.oneCell' = true) (hsd : ∀ (i : Nat) (x : AV), xs[i]? = some x → x.cells.length = b.sz)
    (hrel : ∀ (i : Nat) (x : AV) (j : Nat) (y : AV) (u : Value), xs[i]? = some x → x.cells[j]? = some y → cs[i * b.sz + j]? = some u → R w H φ A y u ∧ u.oneCell' = true) :
    ∃ c b0 cap w', φ id = some (.at_ c b0) ∧ a = .slice (some ⟨c, b0 + off * b.sz, none⟩) len cap ∧ b.el.length ≤ off + cap ∧ (storeCells ⟨c, b0 + at_ * b.sz, none⟩ cs.toList).run P w = .ok () w' ∧
      Out w H φ A w' (H.upd id { b with el := splice b.el at_ xs }) φ A := by
  obtain ⟨_, _, hr⟩ := hx.ref_inv
  obtain ⟨loc, a0, cap, q1, rfl, q3, q4, q5, q6⟩ := (hr b hb).out
  cases loc with
  | virt => simp only at q6; rw [q6.1] at h1; simp at h1; omega
  | at_ c b0 =>
    simp only at q6
    rcases q6 with q6 | ⟨rfl, q7⟩
    · omega
    · obtain ⟨b1, hg1, hok⟩ := hst.blk id _ q1
      have hg := (Heap.blk_get hb).1
      rw [hg] at hg1
      simp only [Option.some.injEq] at hg1; subst hg1
      obtain ⟨arr, T, fr, k1, k2, k3, k4⟩ := hok.here c b0 rfl
      have hle : at_ * b.sz + n * b.sz ≤ b.el.length * b.sz := by rw [← Nat.add_mul]; exact Nat.mul_le_mul_right _ h1
      obtain ⟨w', arr', e1, e2, e3, e4⟩ := run_storeCells P c (b0 + at_ * b.sz) T fr cs.toList 0 arr w k1 k2 (by simp [hsz]; omega) hone
      have hsp : ∀ (i : Nat) (q : AV), (splice b.el at_ xs)[i]? = some q → (at_ ≤ i ∧ i < at_ + n ∧ xs[i - at_]? = some q) ∨ (¬ (at_ ≤ i ∧ i < at_ + n) ∧ b.el[i]? = some q) := by
        intro i q hq
        rw [splice_get _ _ _ (by omega), hxl] at hq
        split at hq
        · rename_i hi; exact .inl ⟨hi.1, hi.2, hq⟩
        · rename_i hi; exact .inr ⟨hi, hq⟩
      refine ⟨c, b0, cap, w', q1, rfl, q5, e1, updOut (b' := { b with el := splice b.el at_ xs }) hst hg q1 rfl rfl rfl (by simp only; rw [splice_len _ _ _ (by omega)]) k1 e2 e3 (fun i q hq => ?_) (fun i q j s v' hq hs hv' => ?_)⟩
      · rcases hsp i q hq with ⟨_, _, h⟩ | ⟨_, h⟩
        · exact hsd _ _ h
        · exact hok.sized i q h
      · rw [e4] at hv'
        simp only [Nat.add_zero, Array.length_toList, hsz] at hv'
        have hjl : j < q.cells.length := (List.getElem?_eq_some_iff.1 hs).1
        rcases hsp i q hq with ⟨i1, i2, h⟩ | ⟨hi, h⟩
        · have hql := hsd _ _ h
          have e5 : i * b.sz = at_ * b.sz + (i - at_) * b.sz := by rw [← Nat.add_mul]; congr 1; omega
          have e6 := mul_lt_le (n := b.sz) (show i - at_ < n by omega)
          rw [if_pos (by omega)] at hv'
          have e7 : b0 + i * b.sz + j - (b0 + at_ * b.sz) = (i - at_) * b.sz + j := by omega
          rw [e7] at hv'
          exact hrel _ q j s v' h hs (by simpa using hv')
        · have hql := hok.sized _ _ h
          rw [if_neg (by
            intro hh
            rcases Nat.lt_or_ge i at_ with h1 | h1
            · have := mul_lt_le (n := b.sz) h1; omega
            · have h2 : at_ + n ≤ i := by omega
              have := Nat.mul_le_mul_right b.sz h2
              rw [Nat.add_mul] at this; omega)] at hv'
          exact k4 i q j s v' h hs hv'
end ops
end Go.VS
