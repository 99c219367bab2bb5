/-
  VS, part 18: copy, clear, len, min, max; all operations that call nothing.
-/
import Derived.Test.YtkmcnmjjfgahpaaVsQ
namespace Go.VS

section ops
variable {P : Program} {E : TEnv} (hE : ∀ t ti, E t = some ti → TyOK P t ti)
variable {w : World} {H : Heap} {φ : Phi} {A : Avoid}

theorem MRes.same {r : Result Next} {x : AV} {v : Value} {H' : Heap} (hr : r = .ok (.value v) w) (hx : R w H φ A x v) (ho : Out w H φ A w H' φ A) : MRes w H φ A H' r x :=
  ⟨_, v, w, φ, A, hr, .inl rfl, hx.mono ho.evo, ho⟩

include hE in
theorem m_copy {H' : Heap} (hst : St w H φ A) {t : TypeId} {tys : Array TypeId} {ty : TypeId} (h0 : tys[0]? = some t) {te : TI} (hte : elTI E t = some te) {d x z : AV} {a b : Value} (hs : R w H φ A d a) (hx : R w H φ A x b)
    (h : copyA te d x H = some (z, H')) : MRes w H φ A H' ((do pure (.value (← Builtin.copy_ tys ty #[a, b])) : Sem Next).run P w) z := by
  obtain ⟨ti, e, ht, hu, hee⟩ := elTI_inv hte
  unfold copyA at h
  split at h
  · simp at h
  · rename_i xs hxs
    split at h
    · simp at h
    · rename_i hsz
      simp only [Bool.or_eq_true, Bool.not_eq_true', beq_iff_eq, not_or, Bool.not_eq_false] at hsz
      obtain ⟨hsz, hz⟩ := hsz
      have hz : 0 < te.sz := by omega
      obtain ⟨cs, hsrc⟩ := src_ok (P := P) hst (Ext.refl H) hx hxs hsz hz
      have hrun : ∀ (base : Option Addr) (dLen dCap : Nat) (w' : World), (match base with | some a => (storeCells a ((cs.extract 0 (min xs.length dLen * te.sz)).toList)).run P w = .ok () w' | none => w' = w) →
          (Builtin.copy_ tys ty #[.slice base dLen dCap, b]).run P w = .ok (.int .i64 (min xs.length dLen : Nat)) w' := by
        intro base dLen dCap w' hw
        have hc := hsrc.run (min xs.length dLen) (Nat.min_le_left _ _)
        unfold Builtin.copy_
        simp only [h0, List.getElem?_toArray, List.getElem?_cons_zero, List.getElem?_cons_succ, Sem.run_bind, (hE _ _ ht).sl w hu, Result.andThen_ok, hsrc.len, (hE _ _ hee).sizeOf]
        rw [show Nat.min xs.length dLen = min xs.length dLen from rfl, hc]
        simp only [Result.andThen_ok]
        cases base with
        | none => simp only at hw; subst hw; rfl
        | some a => simp only at hw; simp only [Sem.run_bind, hw, Result.andThen_ok, Sem.run_pure, goInt]
      have hzero : ∀ base cap, (Builtin.copy_ tys ty #[.slice base 0 cap, b]).run P w = .ok (.int .i64 0) w := by
        intro base cap
        have := hrun base 0 cap w (by cases base <;> simp [storeCells])
        simpa using this
      split at h
      · simp only [Option.some.injEq, Prod.mk.injEq] at h
        obtain ⟨rfl, rfl⟩ := h
        have := hs.nil_inv; subst this
        exact MRes.same (by simp [hzero]) (.fr _ _ (.int _ _)) (.refl hst)
      · simp only [Option.some.injEq, Prod.mk.injEq] at h
        obtain ⟨rfl, rfl⟩ := h
        obtain ⟨a0, rfl⟩ := hs.e0_inv
        exact MRes.same (by simp [hzero]) (.fr _ _ (.int _ _)) (.refl hst)
      · rename_i id ver off len
        split at h
        · simp at h
        · rename_i bk hb
          have hg := (Heap.blk_get hb).1
          split at h
          · rename_i hc
            simp only [Option.some.injEq, Prod.mk.injEq] at h
            obtain ⟨rfl, rfl⟩ := h
            have htl : (xs.take len).length = min xs.length len := by rw [List.length_take, Nat.min_comm]
            by_cases hn : min xs.length len = 0
            · have : xs.take len = [] := List.eq_nil_of_length_eq_zero (by omega)
              rw [this, splice_nil _ _ (by omega), hn]
              obtain ⟨_, ⟨a0, l0, c0, rfl⟩, hr⟩ := hs.ref_inv
              obtain ⟨loc, a1, cap, _, he, _⟩ := (hr bk hb).out
              simp only [Value.slice.injEq] at he
              obtain ⟨rfl, rfl, rfl⟩ := he
              have := hrun a0 l0 c0 w (by rw [hn]; cases a0 <;> simp [storeCells])
              rw [hn] at this
              exact MRes.same (by simp [this]) (.fr _ _ (.int _ _)) (updSame hst hg)
            · have hsl : (cs.extract 0 (min xs.length len * te.sz)).size = min xs.length len * te.sz := by
                have := hsrc.size
                have h2 : min xs.length len * te.sz ≤ xs.length * te.sz := Nat.mul_le_mul_right _ (Nat.min_le_left _ _)
                simp; omega
              obtain ⟨c, b0, cap, w', p1, p2, p3, p4, p5⟩ := span_ok (P := P) hst hs hb (at_ := off) (n := min xs.length len) (by omega) (Nat.le_refl _) (by omega) (.inr (.inr trivial)) htl (cs := cs.extract 0 (min xs.length len * te.sz))
                (by rw [hc.1]; exact hsl) (fun u hu => hsrc.one u (by rw [Array.toList_extract, List.extract_eq_take_drop] at hu; exact List.mem_of_mem_drop (List.mem_of_mem_take hu)))
                (fun i x hi => by
                  rw [List.getElem?_take] at hi
                  split at hi
                  · rw [hc.1]; exact szAll_get hsz hi
                  · simp at hi)
                (fun i x j y u hi hy hu => by
                  rw [List.getElem?_take] at hi
                  split at hi
                  · rw [Array.getElem?_extract] at hu
                    split at hu
                    · rw [hc.1] at hu
                      exact hsrc.rel i x j y u hi hy (by rw [← hu]; congr 1; omega)
                    · simp at hu
                  · simp at hi)
              subst p2
              have := hrun (some ⟨c, b0 + off * bk.sz, none⟩) len cap w' p4
              exact ⟨_, _, w', φ, A, by simp only [Sem.run_bind, this, Result.andThen_ok, Sem.run_pure], .inl rfl, .fr _ _ (.int _ _), p5⟩
          · simp at h
      · simp at h

include hE in
theorem m_clear {H' : Heap} (hst : St w H φ A) {t : TypeId} {tys : Array TypeId} {ty : TypeId} (h0 : tys[0]? = some t) {te : TI} (hte : elTI E t = some te) {d z : AV} {a : Value} (hs : R w H φ A d a)
    (h : clearA te d H = some (z, H')) : MRes w H φ A H' ((do pure (.value (← Builtin.clear_ tys ty #[a])) : Sem Next).run P w) z := by
  obtain ⟨ti, e, ht, hu, hee⟩ := elTI_inv hte
  have hzero : ∀ a0 cap, (Builtin.clear_ tys ty #[.slice a0 0 cap]).run P w = .ok (.tuple #[]) w := by
    intro a0 cap
    unfold Builtin.clear_
    simp only [h0, List.getElem?_toArray, List.getElem?_cons_zero, Sem.run_bind, (hE _ _ ht).sl w hu, Result.andThen_ok]
    cases a0 <;> rfl
  have htup : R w H φ A (.tup []) (.tuple #[]) := .fr _ _ (.tup [] #[] rfl (by simp))
  unfold clearA at h
  split at h
  · simp only [Option.some.injEq, Prod.mk.injEq] at h
    obtain ⟨rfl, rfl⟩ := h
    have := hs.nil_inv; subst this
    exact MRes.same (by simp [hzero]) htup (.refl hst)
  · simp only [Option.some.injEq, Prod.mk.injEq] at h
    obtain ⟨rfl, rfl⟩ := h
    obtain ⟨a0, rfl⟩ := hs.e0_inv
    exact MRes.same (by simp [hzero]) htup (.refl hst)
  · rename_i id ver off len
    split at h
    · rename_i bk zA hb hz
      have hg := (Heap.blk_get hb).1
      split at h
      · rename_i hc
        simp only [Option.some.injEq, Prod.mk.injEq] at h
        obtain ⟨rfl, rfl⟩ := h
        by_cases hn : len = 0
        · subst hn
          obtain ⟨_, _, hr⟩ := hs.ref_inv
          obtain ⟨loc, a1, cap, _, rfl, _⟩ := (hr bk hb).out
          rw [List.replicate_zero, splice_nil _ _ (by omega)]
          exact MRes.same (by simp [hzero]) htup (updSame hst hg)
        · obtain ⟨zv, z1, z2, z3, z4, _, z5⟩ := zero_ok (hE _ _ hee) hz w
          have hcs : ∀ (i j : Nat) (u : Value), i < len → j < te.sz → (Builtin.zeroCells zv.cells len)[i * te.sz + j]? = some u → zv.cells[j]? = some u := by
            intro i j u hi hj hu
            refine rep_cells z2 hi hj ?_
            rw [← hu]; unfold Builtin.zeroCells; rw [z2]
          have hsize : (Builtin.zeroCells zv.cells len).size = len * te.sz := by simp [Builtin.zeroCells, z2]
          have hszp : 0 < te.sz := by
            rcases Nat.eq_zero_or_pos te.sz with h | h
            · rw [h] at hc
              have := hc.2.2
              simp at this
            · exact h
          obtain ⟨c, b0, cap, w', p1, p2, p3, p4, p5⟩ := span_ok (P := P) hst hs hb (at_ := off) (n := len) (by omega) (Nat.le_refl _) (by omega) (.inr (.inr trivial)) (xs := List.replicate len zA) (by simp) (cs := Builtin.zeroCells zv.cells len)
            (by rw [hc.1]; exact hsize) (fun u hu => by
              obtain ⟨k, hk⟩ := List.getElem?_of_mem hu
              rw [Array.getElem?_toList] at hk
              have hk3 : k < len * te.sz := by rw [← hsize]; exact (Array.getElem?_eq_some_iff.1 hk).1
              have hdm : k / te.sz * te.sz + k % te.sz = k := by rw [Nat.mul_comm]; exact Nat.div_add_mod k te.sz
              have := hcs (k / te.sz) (k % te.sz) u (div_lt_of hk3 hszp) (Nat.mod_lt k hszp) (by rw [hdm]; exact hk)
              have hjl : k % te.sz < te.zero.length := by rw [z4]; exact Nat.mod_lt k hszp
              exact (z5 w A _ _ u (List.getElem?_eq_getElem hjl) this).2)
            (fun i x hi => by
              rw [List.getElem?_replicate] at hi
              split at hi
              · simp only [Option.some.injEq] at hi; subst hi; rw [z3, z4, hc.1]
              · simp at hi)
            (fun i x j y u hi hy hu => by
              rw [List.getElem?_replicate] at hi
              split at hi
              · rename_i hil
                simp only [Option.some.injEq] at hi; subst hi
                rw [z3] at hy
                have hj : j < te.sz := by rw [← z4]; exact (List.getElem?_eq_some_iff.1 hy).1
                rw [hc.1] at hu
                have := z5 w A j y u hy (hcs i j u hil hj hu)
                exact ⟨.fr _ _ this.1, this.2⟩
              · simp at hi)
          subst p2
          refine ⟨_, _, w', φ, A, ?_, .inl rfl, .fr _ _ (.tup [] #[] rfl (by simp)), p5⟩
          have : (Builtin.clear_ tys ty #[.slice (some ⟨c, b0 + off * bk.sz, none⟩) len cap]).run P w = .ok (.tuple #[]) w' := by
            unfold Builtin.clear_
            simp only [h0, List.getElem?_toArray, List.getElem?_cons_zero, Sem.run_bind, (hE _ _ ht).sl w hu, Result.andThen_ok]
            cases len with
            | zero => exact absurd rfl hn
            | succ n => simp only [z1, Result.andThen_ok, p4, Sem.run_pure]
          simp only [Sem.run_bind, this, Result.andThen_ok, Sem.run_pure]
      · simp at h
    · simp at h
  · simp at h

include hE in
theorem v_len {t : TypeId} {tys : Array TypeId} {ty : TypeId} (h0 : tys[0]? = some t) {x : AV} {a : Value} (hs : R w H φ A x a) {n : Nat} {H0 : Heap} (hX : Ext H0 H) (h : lenOf H0 x = some n) {ti : TI} (ht : E t = some ti) (hu : (∃ e, ti.und = .sl e ∧ ∀ s, x ≠ .str s) ∨ (ti.und = .str ∧ ∃ s, x = .str s)) :
    (Builtin.len_ tys ty #[a]).run P w = .ok (.int .i64 n) w := by
  unfold Builtin.len_
  simp only [h0, List.getElem?_toArray, List.getElem?_cons_zero, Sem.run_bind]
  rcases hu with ⟨e, hu, hn⟩ | ⟨hu, s, rfl⟩
  · simp only [(hE _ _ ht).sl w hu, Result.andThen_ok]
    cases x with
    | nil => simp [lenOf] at h; subst h; have := hs.nil_inv; subst this; rfl
    | e0 => simp [lenOf] at h; subst h; obtain ⟨a0, rfl⟩ := hs.e0_inv; rfl
    | fz xs => simp [lenOf] at h; subst h; have := hs.fz_inv; cases this <;> rfl
    | ref id ver off len => 
      simp only [lenOf] at h
      split at h
      · rename_i b hb
        simp only [Option.some.injEq] at h; subst h
        obtain ⟨_, _, hr⟩ := hs.ref_inv
        obtain ⟨loc, a1, cap, _, rfl, _⟩ := (hr b (hX.blk hb)).out
        rfl
      · simp at h
    | str s => exact absurd rfl (hn s)
    | _ => simp [lenOf] at h
  · obtain ⟨b, rfl, hb⟩ := hs.str_inv
    simp only [lenOf, Option.some.injEq] at h; subst h
    simp only [(hE _ _ ht).und_str w hu, Result.andThen_ok, Sem.run_pure, goInt]
    rw [← hb]; simp
end ops
end Go.VS
