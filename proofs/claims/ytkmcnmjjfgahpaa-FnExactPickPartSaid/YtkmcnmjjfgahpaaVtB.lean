/-
  VS, part 28: what was lent, and the results, come back.
-/
import Derived.Test.YtkmcnmjjfgahpaaVtA
namespace Go.VS

section back
variable {w : World} {AL AH : Avoid}

structure Mv (w : World) (L : Heap) (φL : Phi) (AL : Avoid) (H : Heap) (φ : Phi) (AH : Avoid) (L1 H1 : Heap) (φ1 : Phi) : Prop where
  less : Less L L1
  duo : Duo w L1 (restr φL L1) AL H1 φ1 AH
  eh : Evo w H φ AH w H1 φ1 AH
  oh : ∀ c, Ow φ1 c → Ow φ c ∨ (Ow φL c ∧ ¬ Ow (restr φL L1) c)
  has : ∀ id ver b, H.blk id ver = some b → ∃ b', H1.blk id ver = some b' ∧ b'.sz = b.sz ∧ b'.el.length = b.el.length
  hphi : ∀ id loc, φ id = some loc → φ1 id = some loc

theorem Moved.mv {L : Heap} {φL : Phi} {H : Heap} {φ : Phi} {L1 H1 : Heap} {φ1 : Phi} (m : Moved w L φL AL H φ AH L1 H1 φ1) : Mv w L φL AL H φ AH L1 H1 φ1 :=
  ⟨m.less, m.duo, m.eh, m.oh, fun _ _ b hb => ⟨b, blk_hget m.hget hb, rfl, rfl⟩, m.hphi⟩

theorem Mv.trans {L L1 L2 : Heap} {φL : Phi} {H H1 H2 : Heap} {φ φ1 φ2 : Phi} (h : Mv w L φL AL H φ AH L1 H1 φ1) (k : Mv w L1 (restr φL L1) AL H1 φ1 AH L2 H2 φ2) : Mv w L φL AL H φ AH L2 H2 φ2 := by
  have hr := restr_restr (φ := φL) k.less
  refine ⟨h.less.trans k.less, by rw [← hr]; exact k.duo, h.eh.trans k.eh (fun _ _ => rfl), fun c hc => ?_, fun id ver b hb => ?_, fun id loc hl => k.hphi id loc (h.hphi id loc hl)⟩
  · rcases k.oh c hc with h1 | ⟨h1, h2⟩
    · rcases h.oh c h1 with h3 | ⟨h3, h4⟩
      · exact .inl h3
      · refine .inr ⟨h3, fun h5 => h4 ?_⟩
        rw [← hr] at h5
        exact restr_ow h5
    · rw [hr] at h2
      exact .inr ⟨restr_ow h1, h2⟩
  · obtain ⟨b1, e1, e2, e3⟩ := h.has id ver b hb
    obtain ⟨b2, f1, f2, f3⟩ := k.has id ver b1 e1
    exact ⟨b2, f1, f2.trans e2, f3.trans e3⟩

theorem Upd.refl {w : World} {c : Nat} {o : Obj} (h : w.heap[c]? = some o) : Upd w c o w := ⟨h, fun _ _ => rfl, rfl, rfl, rfl, rfl⟩

theorem RootLs.mono {L L1 : Heap} {φL : Phi} {H H1 : Heap} {φ φ1 : Phi} (hl : Less L L1) (has : ∀ id ver b, H.blk id ver = some b → ∃ b', H1.blk id ver = some b' ∧ b'.sz = b.sz ∧ b'.el.length = b.el.length) (hphi : ∀ id loc, φ id = some loc → φ1 id = some loc) :
    ∀ {ms : List Mode} {as : List AV} {ls : List (List AV)}, RootLs w L φL AL H φ ms as ls → RootLs w L1 (restr φL L1) AL H1 φ1 ms as ls
  | [], as, ls, _ => by simp [RootLs]
  | m :: ms, [], ls, _ => by cases m <;> simp [RootLs]
  | .val :: ms, a :: as, ls, h => by simp only [RootLs] at h ⊢; exact RootLs.mono hl has hphi h
  | .mov :: ms, a :: as, ls, h => by simp only [RootLs] at h ⊢; exact RootLs.mono hl has hphi h
  | .io :: ms, a :: as, [], h => by simp [RootLs]
  | .io :: ms, a :: as, l :: ls, h => by
    simp only [RootLs] at h ⊢
    refine ⟨⟨h.1.1, fun id ver hr => ?_⟩, RootLs.mono hl has hphi h.2⟩
    obtain ⟨c, b0, b, arr, T, fr, k1, k2, k3, k4, k5, k6⟩ := h.1.2 id ver hr
    obtain ⟨b', e1, e2, e3⟩ := has id ver b k1
    exact ⟨c, b0, b', arr, T, fr, e1, hphi _ _ k2, k3, by rw [k4, e3], fun i x hx => by rw [e2]; exact k5 i x hx, fun i x j y v hx hy hv => (k6 i x j y v hx hy (by rw [← e2]; exact hv)).mono (lessEvo hl)⟩

/-- What was lent comes back. -/
theorem putOuts : ∀ (ms : List Mode) (sh : List (List Sh)) (as : List AV) (ls : List (List AV)) (L : Heap) (φL : Phi) (H : Heap) (φ : Phi) (outs : List AV) (L1 H2 : Heap), Duo w L φL AL H φ AH → RootLs w L φL AL H φ ms as ls →
    takeLs ms sh ls L = some (outs, L1) → putEls ms as outs H = some H2 → KfzL AL AH outs → ∃ φ2, Mv w L φL AL H φ AH L1 H2 φ2
  | [], sh, as, ls, L, φL, H, φ, outs, L1, H2, hd, hr, h1, h2, hk => by
    simp only [takeLs, Option.some.injEq, Prod.mk.injEq] at h1
    obtain ⟨rfl, rfl⟩ := h1
    simp only [putEls, Option.some.injEq] at h2; subst h2
    exact ⟨φ, (Moved.refl hd).mv⟩
  | .val :: ms, sh, [], ls, L, φL, H, φ, outs, L1, H2, hd, hr, h1, h2, hk => by
    simp only [putEls, Option.some.injEq] at h2; subst h2
    exact ⟨_, takeLs_mv hd h1⟩
  | .mov :: ms, sh, [], ls, L, φL, H, φ, outs, L1, H2, hd, hr, h1, h2, hk => by
    simp only [putEls, Option.some.injEq] at h2; subst h2
    exact ⟨_, takeLs_mv hd h1⟩
  | .io :: ms, sh, [], ls, L, φL, H, φ, outs, L1, H2, hd, hr, h1, h2, hk => by
    have : H2 = H := by cases outs <;> simpa [putEls] using h2.symm
    subst this
    exact ⟨_, takeLs_mv hd h1⟩
  | .val :: ms, sh, a :: as, ls, L, φL, H, φ, outs, L1, H2, hd, hr, h1, h2, hk => by
    simp only [takeLs] at h1
    simp only [putEls] at h2
    simp only [RootLs] at hr
    exact putOuts ms sh.tail as ls L φL H φ outs L1 H2 hd hr h1 h2 hk
  | .mov :: ms, sh, a :: as, ls, L, φL, H, φ, outs, L1, H2, hd, hr, h1, h2, hk => by
    simp only [takeLs] at h1
    simp only [putEls] at h2
    simp only [RootLs] at hr
    exact putOuts ms sh.tail as ls L φL H φ outs L1 H2 hd hr h1 h2 hk
  | .io :: ms, sh, a :: as, [], L, φL, H, φ, outs, L1, H2, hd, hr, h1, h2, hk => by
    simp only [takeLs, Option.some.injEq, Prod.mk.injEq] at h1
    obtain ⟨rfl, rfl⟩ := h1
    simp [putEls] at h2
  | .io :: ms, sh, a :: as, l :: ls, L, φL, H, φ, outs, L1, H2, hd, hr, h1, h2, hk => by
    simp only [takeLs] at h1
    split at h1
    rotate_left
    · simp at h1
    rename_i ys L' hm
    split at h1
    rotate_left
    · simp at h1
    rename_i r L'' hrest
    simp only [Option.some.injEq, Prod.mk.injEq] at h1
    obtain ⟨rfl, rfl⟩ := h1
    obtain ⟨k1, k2⟩ := hk.cons
    have k1' : KfzL AL AH ys := by
      rcases k1 with h | h
      · exact .inl h
      · exact .inr (by simpa [noFz] using h)
    simp only [RootLs] at hr
    simp only [putEls] at h2
    cases hra : rootId a with
    | none =>
      have hl0 := hr.1.1 hra
      subst hl0
      simp only [mapH, Option.some.injEq, Prod.mk.injEq] at hm
      obtain ⟨rfl, rfl⟩ := hm
      simp only [hra] at h2
      exact putOuts ms sh.tail as ls L φL H φ r L'' H2 hd hr.2 hrest h2 k2
    | some p =>
      obtain ⟨id, ver⟩ := p
      obtain ⟨c, b0, b, arr, T, fr, e1, e2, e3, e4, e5, e6⟩ := hr.1.2 id ver hra
      simp only [hra, e1] at h2
      split at h2
      rotate_left
      · simp at h2
      rename_i hys
      have hgb := (Heap.blk_get e1).1
      obtain ⟨bb, hbb, hok⟩ := hd.sh.blk id _ e2
      rw [hgb] at hbb
      simp only [Option.some.injEq] at hbb; subst hbb
      obtain ⟨arr', T', fr', f1, f2, f3, f4⟩ := hok.here c b0 rfl
      rw [e3] at f1
      simp only [Option.some.injEq, Obj.cells.injEq] at f1
      obtain ⟨rfl, rfl, rfl⟩ := f1
      let g : Nat → Nat → Value := fun i j => arr.getD (b0 + i * b.sz + j) undef
      have hlt : ∀ i j, i < b.el.length → j < b.sz → b0 + i * b.sz + j < arr.size := by
        intro i j hi hj
        have hle := mul_lt_le (n := b.sz) hi
        omega
      obtain ⟨φ1, m, l1, s1, r1⟩ := moveX (w := w) (es := elSh (sh.headD [])) (fun x vs L φL AL H φ AH y L1 a H1 => moveE _ x vs L φL AL H φ AH y L1 a H1) l g _ _ _ _ _ _ _ _ _ _ hd (fun i x j y hx hy => by
        have hi : i < b.el.length := by rw [← e4]; exact (List.getElem?_eq_some_iff.1 hx).1
        have hj : j < b.sz := by rw [← e5 i x hx]; exact (List.getElem?_eq_some_iff.1 hy).1
        have : g i j = arr[b0 + i * b.sz + j]'(hlt i j hi hj) := by simp only [g, Array.getD_eq_getD_getElem?, Array.getElem?_eq_getElem (hlt i j hi hj), Option.getD_some]
        rw [this]
        exact e6 i x j y _ hx hy (Array.getElem?_eq_getElem (hlt i j hi hj))) hm rfl k1'
      have hgb1 := m.hget id b hgb
      have hsd : ∀ (i : Nat) (x : AV), (thawL ys H).1[i]? = some x → x.cells.length = b.sz := by
        intro i x hx
        have hi : i < l.length := by rw [← l1]; exact (List.getElem?_eq_some_iff.1 hx).1
        rw [s1 i _ x (List.getElem?_eq_getElem hi) hx]
        exact e5 i _ (List.getElem?_eq_getElem hi)
      have U := updOut (w := w) (b' := { b with el := (thawL ys H).1 }) m.duo.sh hgb1 (m.hphi _ _ e2) rfl rfl rfl (by simp only; rw [l1, e4]) e3 (Upd.refl e3) rfl hsd (fun i x j y v hx hy hv => by
        have hi : i < b.el.length := by rw [← e4, ← l1]; exact (List.getElem?_eq_some_iff.1 hx).1
        have hj : j < b.sz := by rw [← hsd i x hx]; exact (List.getElem?_eq_some_iff.1 hy).1
        have hgv : g i j = v := by simp only [g, Array.getD_eq_getD_getElem?, hv, Option.getD_some]
        refine ⟨by rw [← hgv]; exact r1 i x j y hx hy, ?_⟩
        have hbi := List.getElem?_eq_getElem hi
        exact (f4 i _ j _ v hbi (List.getElem?_eq_getElem (show j < _ by rw [hok.sized _ _ hbi]; exact hj)) hv).2)
      have M : Mv w L φL AL H φ AH L' ((thawL ys H).2.upd id { b with el := (thawL ys H).1 }) φ1 := by
        refine ⟨m.less, ⟨m.duo.sl, U.st, m.duo.dis, m.duo.cov⟩, m.eh.trans U.evo (fun _ _ => rfl), m.oh, fun id' ver' b' hb' => ?_, m.hphi⟩
        obtain ⟨q1, q2⟩ := Heap.blk_get hb'
        by_cases hid : id' = id
        · subst hid
          rw [hgb] at q1
          simp only [Option.some.injEq] at q1; subst q1
          refine ⟨{ b with el := (thawL ys H).1 }, ?_, rfl, by simp only; rw [l1, e4]⟩
          have := Heap.blk_of_get (H := (thawL ys H).2.upd id' { b with el := (thawL ys H).1 }) (id := id') (b := { b with el := (thawL ys H).1 }) (by rw [get_upd_new (Heap.get_lt hgb1), if_pos rfl])
          rw [← q2]; exact this
        · refine ⟨b', ?_, rfl, rfl⟩
          have := Heap.blk_of_get (H := (thawL ys H).2.upd id { b with el := (thawL ys H).1 }) (id := id') (b := b') (by rw [get_upd_new (Heap.get_lt hgb1), if_neg hid]; exact m.hget id' b' q1)
          rw [← q2]; exact this
      obtain ⟨φ2, M2⟩ := putOuts ms sh.tail as ls L' (restr φL L') _ φ1 r L'' H2 M.duo (hr.2.mono M.less M.has M.hphi) hrest h2 k2
      exact ⟨φ2, M.trans M2⟩
  where
  takeLs_mv {ms : List Mode} {sh : List (List Sh)} {ls : List (List AV)} {L : Heap} {φL : Phi} {H : Heap} {φ : Phi} {outs : List AV} {L1 : Heap} (hd : Duo w L φL AL H φ AH) (h : takeLs ms sh ls L = some (outs, L1)) : Mv w L φL AL H φ AH L1 H φ := by
    have hl := takeLs_less ms sh ls L outs L1 h
    refine ⟨hl, ⟨lessSt hd.sl hl, hd.sh, fun c hc => hd.dis c (restr_ow hc), fun c hc => hd.cov c (restr_ow hc)⟩, .refl _ _ _ _, fun c hc => .inl hc, fun id ver b hb => ⟨b, hb, rfl, rfl⟩, fun _ _ h => h⟩
  takeLs_less : ∀ (ms : List Mode) (sh : List (List Sh)) (ls : List (List AV)) (L : Heap) (outs : List AV) (L1 : Heap), takeLs ms sh ls L = some (outs, L1) → Less L L1
    | [], sh, ls, L, outs, L1, h => by simp only [takeLs, Option.some.injEq, Prod.mk.injEq] at h; obtain ⟨_, rfl⟩ := h; exact .refl _
    | .val :: ms, sh, ls, L, outs, L1, h => by simp only [takeLs] at h; exact takeLs_less ms _ ls L outs L1 h
    | .mov :: ms, sh, ls, L, outs, L1, h => by simp only [takeLs] at h; exact takeLs_less ms _ ls L outs L1 h
    | .io :: ms, sh, [], L, outs, L1, h => by simp only [takeLs, Option.some.injEq, Prod.mk.injEq] at h; obtain ⟨_, rfl⟩ := h; exact .refl _
    | .io :: ms, sh, l :: ls, L, outs, L1, h => by
      simp only [takeLs] at h
      split at h
      · rename_i ys L' hm
        split at h
        · rename_i r L'' hr
          simp only [Option.some.injEq, Prod.mk.injEq] at h
          obtain ⟨_, rfl⟩ := h
          exact (mapH_less (fun x L y L1 h => takeE_less _ x L y L1 h) _ _ _ _ hm).trans (takeLs_less ms _ ls L' r _ hr)
        · simp at h
      · simp at h

/-- Results, handed over. -/
theorem moveVals : ∀ (sh : List (List Sh)) (rs : List AV) (us : List Value) (L : Heap) (φL : Phi) (H : Heap) (φ : Phi) (ys : List AV) (L1 : Heap), Duo w L φL AL H φ AH → rs.length = us.length →
    (∀ (i : Nat) (x : AV) (u : Value), rs[i]? = some x → us[i]? = some u → R w L φL AL x u) → takeVals sh rs L = some (ys, L1) → KfzL AL AH ys →
    ∃ φ1, Moved w L φL AL H φ AH L1 (thawL ys H).2 φ1 ∧ (thawL ys H).1.length = us.length ∧ ∀ (i : Nat) (x : AV) (u : Value), (thawL ys H).1[i]? = some x → us[i]? = some u → R w (thawL ys H).2 φ1 AH x u
  | sh, [], us, L, φL, H, φ, ys, L1, hd, hl, hr, ht, hk => by
    simp only [takeVals, Option.some.injEq, Prod.mk.injEq] at ht
    obtain ⟨rfl, rfl⟩ := ht
    exact ⟨φ, .refl hd, hl, by simp [thawL]⟩
  | sh, x :: rs, u :: us, L, φL, H, φ, ys, L1, hd, hl, hr, ht, hk => by
    simp only [takeVals] at ht
    split at ht
    rotate_left
    · simp at ht
    rename_i y L' h1
    split at ht
    rotate_left
    · simp at ht
    rename_i ys' L'' h2
    simp only [Option.some.injEq, Prod.mk.injEq] at ht
    obtain ⟨rfl, rfl⟩ := ht
    obtain ⟨k1, k2⟩ := hk.cons
    obtain ⟨φ1, m1, r1⟩ := moveV hd (hr 0 x u rfl rfl) h1 rfl k1
    obtain ⟨φ2, m2, l2, r2⟩ := moveVals sh.tail rs us L' (restr φL L') (thawV y H).2 φ1 ys' L'' m1.duo (by simpa using hl) (fun i x u hx hu => (hr (i + 1) x u hx hu).mono (lessEvo m1.less)) h2 k2
    refine ⟨φ2, m1.trans m2, by simp [thawL, l2], fun i x' u' hx hu => ?_⟩
    cases i with
    | zero => simp [thawL] at hx hu; subst hx; subst hu; exact r1.mono m2.eh
    | succ i => simp only [thawL, List.getElem?_cons_succ] at hx hu; exact r2 i x' u' hx hu
  | sh, x :: rs, [], L, φL, H, φ, ys, L1, hd, hl, hr, ht, hk => by simp at hl

theorem takeVals_less : ∀ (sh : List (List Sh)) (rs : List AV) (L : Heap) (ys : List AV) (L1 : Heap), takeVals sh rs L = some (ys, L1) → Less L L1
  | sh, [], L, ys, L1, ht => by simp only [takeVals, Option.some.injEq, Prod.mk.injEq] at ht; obtain ⟨rfl, rfl⟩ := ht; exact .refl _
  | sh, x :: rs, L, ys, L1, ht => by
    simp only [takeVals] at ht
    split at ht
    · rename_i y L' h1
      split at ht
      · rename_i ys' L'' h2
        simp only [Option.some.injEq, Prod.mk.injEq] at ht
        obtain ⟨rfl, rfl⟩ := ht
        exact (takeE_less _ _ _ _ _ h1).trans (takeVals_less _ rs _ _ _ h2)
      · simp at ht
    · simp at ht

theorem frzWhole {es : List Sh} {x : AV} {v : Value} {L : Heap} {φL : Phi} {A' : Avoid} {y : AV} {L1 : Heap} (hst : St w L φL AL) (hx : R w L φL AL x v) (ht : takeE es x L = some (y, L1)) (hk : ∀ c, A' c → gone φL AL L1 c) : FR w A' (frzV y) v := by
  by_cases hag : ∃ cs, x = .agg cs
  · obtain ⟨cs, rfl⟩ := hag
    obtain ⟨cs', hc, rfl⟩ := takeE_agg ht
    obtain ⟨vs, rfl, hl, ho, hp⟩ := hx.agg_inv
    obtain ⟨l1, r1⟩ := frzC es cs vs.toList L φL AL A' cs' L1 hst (by simpa using hl) (fun j c u hj hu => hp j c u hj (by simpa using hu)) hc hk
    exact .agg _ _ (by rw [l1, hl]) ho fun i x v hx hv => r1 i x v hx (by simpa using hv)
  · obtain ⟨e, rfl, ht'⟩ := takeE_one (fun cs h => hag ⟨cs, h⟩) ht
    exact (frzT e x v L φL AL A' y L1 hst hx ht' hk).1

/-- Results, kept for good. -/
theorem frzVals {A' : Avoid} : ∀ (sh : List (List Sh)) (rs : List AV) (us : List Value) (L : Heap) (φL : Phi) (ys : List AV) (L1 : Heap), St w L φL AL → rs.length = us.length →
    (∀ (i : Nat) (x : AV) (u : Value), rs[i]? = some x → us[i]? = some u → R w L φL AL x u) → takeVals sh rs L = some (ys, L1) → (∀ c, A' c → gone φL AL L1 c) →
    (frzL ys).length = us.length ∧ ∀ (i : Nat) (x : AV) (u : Value), (frzL ys)[i]? = some x → us[i]? = some u → FR w A' x u
  | sh, [], us, L, φL, ys, L1, hd, hl, hr, ht, hk => by
    simp only [takeVals, Option.some.injEq, Prod.mk.injEq] at ht
    obtain ⟨rfl, rfl⟩ := ht
    exact ⟨hl, by simp [frzL]⟩
  | sh, x :: rs, u :: us, L, φL, ys, L1, hd, hl, hr, ht, hk => by
    simp only [takeVals] at ht
    split at ht
    rotate_left
    · simp at ht
    rename_i y L' h1
    split at ht
    rotate_left
    · simp at ht
    rename_i ys' L'' h2
    simp only [Option.some.injEq, Prod.mk.injEq] at ht
    obtain ⟨rfl, rfl⟩ := ht
    have hl1 := takeE_less _ _ _ _ _ h1
    have hl2 := takeVals_less _ _ _ _ _ h2
    have r1 := frzWhole (A' := A') hd (hr 0 x u rfl rfl) h1 (fun c hc => gone_less hl2 (hk c hc))
    obtain ⟨l2, r2⟩ := frzVals sh.tail rs us L' (restr φL L') ys' L'' (lessSt hd hl1) (by simpa using hl) (fun i x u hx hu => (hr (i + 1) x u hx hu).mono (lessEvo hl1)) h2 (fun c hc => by
      obtain ⟨k1, k2⟩ := hk c hc
      exact ⟨k1, fun ho => by rw [restr_restr hl2]; exact k2 (restr_ow ho)⟩)
    refine ⟨by simp [frzL, l2], fun i x' u' hx hu => ?_⟩
    cases i with
    | zero => simp [frzL] at hx hu; subst hx; subst hu; exact r1
    | succ i => simp only [frzL, List.getElem?_cons_succ] at hx hu; exact r2 i x' u' hx hu
  | sh, x :: rs, [], L, φL, ys, L1, hd, hl, hr, ht, hk => by simp at hl
end back
end Go.VS
