/-
  VS, part 17: the builtins against the machine.
-/
import Derived.Test.YtkmcnmjjfgahpaaVsP
namespace Go.VS

theorem splice_nil (cs : List AV) (k : Nat) (_h : k ≤ cs.length) : splice cs k [] = cs := by
  unfold splice; simp

section ops
variable {P : Program} {E : TEnv} (hE : ∀ t ti, E t = some ti → TyOK P t ti)
variable {w : World} {H : Heap} {φ : Phi} {A : Avoid}

/-- A heap that reads the same. -/
theorem sameOut (hst : St w H φ A) {H' : Heap} (hg : ∀ id, H'.get id = H.get id) (hs : H'.st = H.st) : Out w H φ A w H' φ A := by
  have hevo : Evo w H φ A w H' φ A := ⟨fun c a t fr hc hn => ⟨⟨fr, hc⟩, hn⟩, by rw [hs]; exact Nat.le_refl _, fun id b hb _ => ⟨b, by rw [← hg]; exact hb, rfl, rfl, rfl, rfl, fun _ h => h⟩, fun _ _ => rfl⟩
  refine ⟨⟨hst.inj, hst.own, hst.bnd, fun id loc h => ?_⟩, .refl _ _, hevo, fun _ h _ => h⟩
  obtain ⟨b, hb, hok⟩ := hst.blk id loc h
  refine ⟨b, by rw [hg]; exact hb, by rw [hs]; exact hok.ver, hok.sized, hok.virt, fun c b0 hl => ?_⟩
  obtain ⟨arr, T, fr, h1, h2, h3, h4⟩ := hok.here c b0 hl
  exact ⟨arr, T, fr, h1, h2, h3, fun i x j y v hx hy hv => ⟨(h4 i x j y v hx hy hv).1.mono hevo, (h4 i x j y v hx hy hv).2⟩⟩

theorem updSame (hst : St w H φ A) {id : Nat} {b : Blk} (hg : H.get id = some b) : Out w H φ A w (H.upd id b) φ A :=
  sameOut hst (fun k => by rw [Heap.get_upd hg]; split; · rename_i h; rw [h, hg]
                           · rfl) rfl

theorem run_append_in {t tx e : TypeId} {ti te txi : TI} (ht : TyOK P t ti) (hu : ti.und = .sl e) (hte : TyOK P e te) (htx : TyOK P tx txi) (hnx : ∀ k, txi.und ≠ .it k) (tys : Array TypeId) (h0 : tys[0]? = some t) (h1 : tys[1]? = some tx) (ty : TypeId)
    {base : Option Addr} {sLen sCap : Nat} {x : Value} {n : Nat} {csX : Array Value} {w' : World} (hlen : (Builtin.lenOf x).run P w = .ok n w)
    (hX : (Builtin.firstCells te.sz n x).run P w = .ok csX w) (hneed : sLen + n ≤ sCap) (hst : match base with | some a => (storeCells (a.add (sLen * te.sz)) csX.toList).run P w = .ok () w' | none => w' = w) :
    (Builtin.append_ tys ty #[.slice base sLen sCap, x]).run P w = .ok (.slice base (sLen + n) sCap) w' := by
  obtain ⟨d, hd, hdn⟩ := not_it htx hnx w
  unfold Builtin.append_
  simp only [h0, h1, List.getElem?_toArray, List.getElem?_cons_zero, List.getElem?_cons_succ, Sem.run_bind, ht.sl w hu, Result.andThen_ok, hte.sizeOf, hd, Sem.run_pure]
  simp only [Bool.false_eq_true, if_false, Bool.not_false, if_true, Sem.run_bind, hlen, Result.andThen_ok, hneed, hX]
  cases base with
  | none => simp only at hst; subst hst; rfl
  | some a => simp only at hst ⊢; simp only [Sem.run_bind, hst, Result.andThen_ok, Sem.run_pure]

include hE in
theorem m_append {H' : Heap} (hst : St w H φ A) {t tx : TypeId} {tys : Array TypeId} {ty : TypeId} (h0 : tys[0]? = some t) (h1 : tys[1]? = some tx) {te txi : TI} (hte : elTI E t = some te)
    (htx : E tx = some txi) (hnx : ∀ k, txi.und ≠ .it k) {id ver off len : Nat} {x z : AV} {a b : Value} (hs : R w H φ A (.ref id ver off len) a) (hx : R w H φ A x b) (h : appendA te (.ref id ver off len) x H = some (z, H')) :
    MRes w H φ A H' ((do pure (.value (← Builtin.append_ tys ty #[a, b])) : Sem Next).run P w) z := by
  obtain ⟨ti, e, ht, hu, hee⟩ := elTI_inv hte
  unfold appendA at h
  split at h
  · simp at h
  · rename_i xs hxs
    split at h
    · simp at h
    · rename_i hsz
      simp only [Bool.not_eq_true', Bool.not_eq_false] at hsz
      split at h
      · simp at h
      · rename_i hz
        have hz : 0 < te.sz := by omega
        obtain ⟨cs, hsrc⟩ := src_ok (P := P) hst (Ext.refl H) hx hxs hsz hz
        have hcx := hsrc.run xs.length (Nat.le_refl _)
        rw [← hsrc.size, Array.extract_size] at hcx
        obtain ⟨hv, _, hr⟩ := hs.ref_inv
        have hs1 : ∀ (i : Nat) (x : AV), xs[i]? = some x → x.cells.length = te.sz := fun i x hi => szAll_get hsz hi
        simp only at h
        split at h
        · simp at h
        · rename_i bk hb
          have hg := (Heap.blk_get hb).1
          split at h
          · simp at h
          · rename_i hbs
            simp only [ne_eq, Decidable.not_not] at hbs
            obtain ⟨loc, a0, cap, q1, rfl, q3, q4, q5, q6⟩ := (hr bk hb).out
            split at h
            · rename_i hfit
              simp only [Option.some.injEq, Prod.mk.injEq] at h
              obtain ⟨rfl, rfl⟩ := h
              by_cases hn : xs.length = 0
              · have hxe : xs = [] := List.eq_nil_of_length_eq_zero hn
                subst hxe
                have hcs : cs = #[] := Array.eq_empty_of_size_eq_zero (by simpa using hsrc.size)
                subst hcs
                have hrun := run_append_in (P := P) (w := w) (w' := w) (base := a0) (sLen := len) (sCap := cap) (hE _ _ ht) hu (hE _ _ hee) (hE _ _ htx) hnx tys h0 h1 ty hsrc.len hcx (by simpa using q4) (by cases a0 <;> simp [storeCells])
                have ho : Out w H φ A w (H.upd id { bk with el := splice bk.el (off + len) [] }) φ A := by
                  rw [splice_nil _ _ q3]; exact updSame hst hg
                exact ⟨_, _, w, φ, A, by simp only [Sem.run_bind, hrun, Result.andThen_ok, Sem.run_pure]; rfl, .inl rfl, hs.mono ho.evo, ho⟩
              · obtain ⟨c, b0, cap', w', p1, p2, p3, p4, p5⟩ := span_ok (P := P) hst hs hb (at_ := off + len) (n := xs.length) hfit (by omega) (by omega) (.inr (.inr trivial)) rfl (cs := cs) (by rw [hbs]; exact hsrc.size) hsrc.one
                  (fun i x hi => by rw [hbs]; exact hs1 i x hi) (fun i x j y u hi hy hu => hsrc.rel i x j y u hi hy (by rw [← hbs]; exact hu))
                simp only [Value.slice.injEq, true_and] at p2
                obtain ⟨rfl, rfl⟩ := p2
                have hrun := run_append_in (P := P) (w := w) (w' := w') (base := some ⟨c, b0 + off * bk.sz, none⟩) (sLen := len) (sCap := cap) (hE _ _ ht) hu (hE _ _ hee) (hE _ _ htx) hnx tys h0 h1 ty hsrc.len hcx (by omega) (by
                  simp only [add_none]
                  have : b0 + off * bk.sz + len * te.sz = b0 + (off + len) * bk.sz := by rw [← hbs, Nat.add_mul]; omega
                  rw [this]; exact p4)
                refine ⟨_, _, w', φ, A, by simp only [Sem.run_bind, hrun, Result.andThen_ok, Sem.run_pure]; rfl, .inl rfl, ?_, p5⟩
                refine .ref _ _ _ _ _ (Nat.lt_of_lt_of_le hv p5.evo.st) ⟨_, _, _, rfl⟩ fun b' hb' => ?_
                have hg' := (Heap.blk_get hb').1
                rw [Heap.get_upd hg, if_pos rfl] at hg'
                simp only [Option.some.injEq] at hg'; subst hg'
                have hsl : (splice bk.el (off + len) xs).length = bk.el.length := splice_len _ _ _ hfit
                refine ⟨.at_ c b0, _, _, p1, rfl, by simp only [hsl]; omega, by omega, by simp only [hsl]; omega, ?_⟩
                simp only
                rw [p1] at q1
                simp only [Option.some.injEq] at q1; subst q1
                simp only at q6
                rcases q6 with q6 | ⟨_, q7⟩
                · omega
                · right
                  exact ⟨by first | rfl | trivial, by rw [p5.post.bsz c (Ow.lt hst ⟨id, b0, p1⟩)]; exact q7⟩
            · rename_i hfit
              split at h
              · simp at h
              · rename_i hfix
                split at h
                · rename_i hc
                  obtain ⟨c1, c2⟩ := hc
                  simp only [Option.some.injEq, Prod.mk.injEq] at h
                  obtain ⟨rfl, rfl⟩ := h
                  have hn : 0 < xs.length := by
                    rcases Nat.eq_zero_or_pos xs.length with h | h
                    · rw [h] at hfit; omega
                    · exact h
                  have hnewsz : ∀ (i : Nat) (x : AV), (subL bk.el off len ++ xs)[i]? = some x → x.cells.length = bk.sz := by
                    intro i x hi
                    rw [List.getElem?_append] at hi
                    split at hi
                    · simp only [subL, List.getElem?_take, List.getElem?_drop] at hi
                      split at hi
                      · obtain ⟨b1, hg1, hok⟩ := hst.blk id _ q1
                        rw [hg] at hg1
                        simp only [Option.some.injEq] at hg1; subst hg1
                        exact hok.sized _ _ hi
                      · simp at hi
                    · rw [hbs]; exact hs1 _ _ hi
                  have hsub : (subL bk.el off len).length = len := by simp [subL]; omega
                  by_cases hneed : len + xs.length ≤ cap
                  · -- there was room after all
                    cases loc with
                    | virt =>
                      simp only at q6
                      have := q6.2 (by simpa using hfix)
                      omega
                    | at_ c b0 =>
                      simp only at q6
                      rcases q6 with q6 | ⟨rfl, q7⟩
                      · omega
                      · obtain ⟨b1, hg1, hok⟩ := hst.blk id _ q1
                        rw [hg] at hg1
                        simp only [Option.some.injEq] at hg1; subst hg1
                        obtain ⟨arr, T, fr, k1, k2, k3, k4⟩ := hok.here c b0 rfl
                        have hbz : bsz w c = arr.size := by unfold bsz; rw [k1]
                        rw [hbz] at q7
                        have hle : (off + len) * bk.sz + xs.length * bk.sz ≤ (off + cap) * bk.sz := by rw [← Nat.add_mul]; exact Nat.mul_le_mul_right _ (by omega)
                        have hcs : cs.size = xs.length * bk.sz := by rw [hbs]; exact hsrc.size
                        obtain ⟨w', arr', e1, e2, e3, e4⟩ := run_storeCells P c (b0 + (off + len) * bk.sz) T fr cs.toList 0 arr w k1 k2 (by simp [hcs]; omega) hsrc.one
                        have hrun := run_append_in (P := P) (w := w) (w' := w') (base := some ⟨c, b0 + off * bk.sz, none⟩) (sLen := len) (sCap := cap) (hE _ _ ht) hu (hE _ _ hee) (hE _ _ htx) hnx tys h0 h1 ty hsrc.len hcx hneed (by
                          simp only [add_none]
                          have : b0 + off * bk.sz + len * te.sz = b0 + (off + len) * bk.sz := by rw [← hbs, Nat.add_mul]; omega
                          rw [this]; exact e1)
                        have hmul : off * bk.sz + len * bk.sz = (off + len) * bk.sz := (Nat.add_mul _ _ _).symm
                        have ho := growOut (b' := ⟨H.st, bk.sz, false, subL bk.el off len ++ xs⟩) (c := c) (b0 := b0 + off * bk.sz) (arr' := arr') (T := T) (fr := fr) (w' := w') hst hg rfl (.inl ⟨⟨id, b0, q1⟩, b0, q1⟩) e2.here (fun k _ hk => e2.other k hk) (by rw [e2.size]; exact Nat.le_refl _) e2.os e2.tape e2.output
                          (fun _ => by rw [e3, hbz]) (by rw [e3]; exact k2) (by
                            rw [List.length_append, hsub, e3]
                            have : (len + xs.length) * bk.sz = len * bk.sz + xs.length * bk.sz := Nat.add_mul _ _ _
                            show b0 + off * bk.sz + (len + xs.length) * bk.sz ≤ arr.size
                            omega) hnewsz (fun i x j y v hi hy hv' => by
                            dsimp only at hv'
                            rw [e4] at hv'
                            simp only [Nat.add_zero, Array.length_toList, hcs] at hv'
                            have hjl : j < x.cells.length := (List.getElem?_eq_some_iff.1 hy).1
                            have hxl := hnewsz i x hi
                            rw [List.getElem?_append] at hi
                            split at hi
                            · rename_i hil
                              rw [hsub] at hil
                              simp only [subL, List.getElem?_take, List.getElem?_drop] at hi
                              split at hi
                              · have := mul_lt_le (n := bk.sz) hil
                                rw [if_neg (by omega)] at hv'
                                exact k4 (off + i) x j y v hi hy (by rw [← hv']; congr 1; rw [Nat.add_mul]; omega)
                              · first | (cases hi; done) | (exact absurd hil ‹_›)
                            · rename_i hil
                              rw [hsub] at hi hil
                              have hilt : i - len < xs.length := (List.getElem?_eq_some_iff.1 hi).1
                              have h7 : i * bk.sz = len * bk.sz + (i - len) * bk.sz := by rw [← Nat.add_mul]; congr 1; omega
                              have h8 := mul_lt_le (n := bk.sz) hilt
                              rw [if_pos (by omega)] at hv'
                              refine hsrc.rel _ x j y v hi hy ?_
                              rw [← hv', ← hbs, Array.getElem?_toList]; congr 1; omega)
                        refine ⟨_, _, w', _, _, by simp only [Sem.run_bind, hrun, Result.andThen_ok, Sem.run_pure]; rfl, .inl rfl, ?_, ho⟩
                        refine .ref _ _ _ _ _ (Nat.lt_succ_self _) ⟨_, _, _, rfl⟩ fun b' hb' => ?_
                        have hg' := (Heap.blk_get hb').1
                        rw [show (Heap.mk (H.st + 1) (H.bs.set id (some ⟨H.st, bk.sz, false, subL bk.el off len ++ xs⟩))).get id = _ from Heap.get_upd hg id, if_pos rfl] at hg'
                        simp only [Option.some.injEq] at hg'; subst hg'
                        refine ⟨.at_ c (b0 + off * bk.sz), _, _, by simp, rfl, by simp [hsub], by omega, by simp [hsub]; omega, ?_⟩
                        refine Or.inr ⟨by simp, ?_⟩
                        dsimp only
                        have : bsz w' c = arr.size := by unfold bsz; rw [e2.here]; exact e3
                        rw [this, Nat.zero_add]
                        have : (off + cap) * bk.sz = off * bk.sz + cap * bk.sz := Nat.add_mul _ _ _
                        omega
                  · -- a new row
                    have hod := drewOut hst
                    obtain ⟨csS, t1, t2⟩ : ∃ csS : Array Value, (Builtin.firstCells te.sz len (.slice a0 len cap)).run P w.drew = .ok csS w.drew ∧ csS.size = len * te.sz ∧
                        ∀ (i : Nat) (x : AV) (j : Nat) (y : AV) (v : Value), (subL bk.el off len)[i]? = some x → x.cells[j]? = some y → csS[i * te.sz + j]? = some v → R w.drew H φ A y v ∧ v.oneCell' = true := by
                      have hse : elemsOf H (.ref id ver off len) = some (subL bk.el off len) := by simp only [elemsOf, hb]; rw [if_pos c1]
                      have hss : szAll te.sz (subL bk.el off len) = true := by
                        rw [szAll, List.all_eq_true]
                        intro q hq
                        obtain ⟨k, hk⟩ := List.getElem?_of_mem hq
                        have := hnewsz k q (by rw [List.getElem?_append_left (List.getElem?_eq_some_iff.1 hk).1]; exact hk)
                        simp [this, hbs]
                      obtain ⟨cs', hsrc'⟩ := src_ok (P := P) hod.st (Ext.refl H) (hs.mono hod.evo) hse hss hz
                      have hc2 := hsrc'.run len (by rw [hsub]; exact Nat.le_refl _)
                      have hcsz : cs'.size = len * te.sz := by rw [hsrc'.size, hsub]
                      rw [← hcsz, Array.extract_size] at hc2
                      exact ⟨cs', hc2, hcsz, hsrc'.rel⟩
                    obtain ⟨t2, t3⟩ := t2
                    obtain ⟨cs', hsrc'⟩ := src_ok (P := P) hod.st (Ext.refl H) (hx.mono hod.evo) hxs hsz hz
                    have hc2 := hsrc'.run xs.length (Nat.le_refl _)
                    rw [← hsrc'.size, Array.extract_size] at hc2
                    obtain ⟨cap', arr, k1, k2, k3, k4⟩ := run_append_grow (P := P) (w := w) (hE _ _ ht) hu (hE _ _ hee) (hE _ _ htx) hnx tys h0 h1 ty (base := a0) (sLen := len) (sCap := cap) hsrc.len t1 hc2 t2 hsrc'.size (by omega) c2
                    have hle : (len + xs.length) * te.sz ≤ cap' * te.sz := Nat.mul_le_mul_right _ k1
                    have ho := growOut (b' := ⟨H.st, bk.sz, false, subL bk.el off len ++ xs⟩) (c := w.drew.heap.size) (b0 := 0) (arr' := arr) (T := e) (fr := (0, 0)) (w' := w.drew.alloc (.cells arr e)) hod.st hg rfl (.inr (Nat.le_refl _)) (heap_alloc_new _ _) (fun k hk _ => heap_alloc_old _ _ hk) (by simp) rfl rfl rfl
                      (fun h => absurd h (Nat.lt_irrefl _)) (fun j _ h => absurd h.2 (Nat.not_lt_zero j)) (by rw [List.length_append, hsub, k3, hbs]; omega) hnewsz (fun i x j y v hi hy hv' => by
                        have hjl : j < x.cells.length := (List.getElem?_eq_some_iff.1 hy).1
                        have hxl := hnewsz i x hi
                        have hil : i < len + xs.length := by have := (List.getElem?_eq_some_iff.1 hi).1; rw [List.length_append, hsub] at this; exact this
                        have h9 := mul_lt_le (n := te.sz) hil
                        simp only [hbs, Nat.zero_add] at hv' hxl
                        rw [k4 _ (by omega)] at hv'
                        rw [List.getElem?_append, hsub] at hi
                        split at hi
                        · rename_i hil2
                          have := mul_lt_le (n := te.sz) hil2
                          rw [Array.getElem?_append_left (by omega)] at hv'
                          exact t3 i x j y v hi hy hv'
                        · rename_i hil2
                          have h7 : i * te.sz = len * te.sz + (i - len) * te.sz := by rw [← Nat.add_mul]; congr 1; omega
                          rw [Array.getElem?_append_right (by omega)] at hv'
                          exact hsrc'.rel _ x j y v hi hy (by rw [← hv']; congr 1; omega))
                    have hot := hod.trans hst ho
                    refine ⟨_, _, _, _, _, by simp only [Sem.run_bind, k2, Result.andThen_ok, Sem.run_pure]; rfl, .inl rfl, ?_, hot⟩
                    refine .ref _ _ _ _ _ (Nat.lt_succ_self _) ⟨_, _, _, rfl⟩ fun b' hb' => ?_
                    have hg' := (Heap.blk_get hb').1
                    rw [show (Heap.mk (H.st + 1) (H.bs.set id (some ⟨H.st, bk.sz, false, subL bk.el off len ++ xs⟩))).get id = _ from Heap.get_upd hg id, if_pos rfl] at hg'
                    simp only [Option.some.injEq] at hg'; subst hg'
                    refine ⟨.at_ w.drew.heap.size 0, _, _, by simp, rfl, by simp [hsub], k1, by simp [hsub]; omega, ?_⟩
                    refine Or.inr ⟨by simp, ?_⟩
                    dsimp only
                    rw [bsz_new, k3, hbs]; simp
                · simp at h
end ops
end Go.VS
