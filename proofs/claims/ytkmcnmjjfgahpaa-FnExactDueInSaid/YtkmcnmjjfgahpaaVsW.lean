/-
  VS, part 23: whole values handed over; values kept for good; values lent.
-/
import Derived.Test.YtkmcnmjjfgahpaaVsV
namespace Go.VS

section duo
variable {w : World}

theorem R.shrinkA {H : Heap} {φ : Phi} {A A' : Avoid} (hA : ∀ c, A' c → A c) {x : AV} {v : Value} (h : R w H φ A x v) : R w H φ A' x v :=
  h.mono ⟨fun c _arr _T fr hc hn => ⟨⟨fr, hc⟩, fun h => hn (hA c h)⟩, Nat.le_refl _, fun _id b h _ => ⟨b, h, rfl, rfl, rfl, rfl, fun _ h => h⟩, fun _ _ => rfl⟩

theorem takeE_agg {es : List Sh} {cs : List AV} {L L1 : Heap} {y : AV} (ht : takeE es (.agg cs) L = some (y, L1)) : ∃ cs', takeC es cs L = some (cs', L1) ∧ y = .agg cs' := by
  match es, ht with
  | [], ht =>
    simp only [takeE] at ht
    split at ht
    · rename_i cs' L' hc
      simp only [Option.some.injEq, Prod.mk.injEq] at ht
      obtain ⟨rfl, rfl⟩ := ht
      exact ⟨cs', hc, rfl⟩
    · simp at ht
  | [e], ht =>
    simp only [takeE] at ht
    split at ht
    · rename_i cs' L' hc
      simp only [Option.some.injEq, Prod.mk.injEq] at ht
      obtain ⟨rfl, rfl⟩ := ht
      exact ⟨cs', hc, rfl⟩
    · simp at ht
  | e :: e' :: es, ht =>
    simp only [takeE] at ht
    split at ht
    · rename_i cs' L' hc
      simp only [Option.some.injEq, Prod.mk.injEq] at ht
      obtain ⟨rfl, rfl⟩ := ht
      exact ⟨cs', hc, rfl⟩
    · simp at ht

theorem takeE_one {es : List Sh} {x : AV} (hx : ∀ cs, x ≠ .agg cs) {L L1 : Heap} {y : AV} (ht : takeE es x L = some (y, L1)) : ∃ e, es = [e] ∧ takeT e x L = some (y, L1) := by
  match es, ht with
  | [e], ht =>
    refine ⟨e, rfl, ?_⟩
    cases x <;> first | (simpa only [takeE] using ht) | exact absurd rfl (hx _)
  | [], ht => cases x <;> first | (simp [takeE] at ht; done) | exact absurd rfl (hx _)
  | _ :: _ :: _, ht => cases x <;> first | (simp [takeE] at ht; done) | exact absurd rfl (hx _)

/-- A whole value, handed over. -/
theorem moveV {es : List Sh} {x : AV} {v : Value} {L : Heap} {φL : Phi} {AL : Avoid} {H : Heap} {φ : Phi} {AH : Avoid} {y : AV} {L1 : Heap} {a : AV} {H1 : Heap} (hd : Duo w L φL AL H φ AH) (hx : R w L φL AL x v)
    (ht : takeE es x L = some (y, L1)) (hw : thawV y H = (a, H1)) (hk : Kfz AL AH y) : ∃ φ1, Moved w L φL AL H φ AH L1 H1 φ1 ∧ R w H1 φ1 AH a v := by
  by_cases hag : ∃ cs, x = .agg cs
  · obtain ⟨cs, rfl⟩ := hag
    obtain ⟨cs', hc, rfl⟩ := takeE_agg ht
    simp only [thawV, Prod.mk.injEq] at hw
    obtain ⟨rfl, rfl⟩ := hw
    have hk' : KfzL AL AH cs' := by
      rcases hk with h | h
      · exact .inl h
      · exact .inr (by simpa [noFz] using h)
    obtain ⟨vs, rfl, hl, ho, hp⟩ := hx.agg_inv
    obtain ⟨φ1, m, l1, r1⟩ := moveC es cs vs.toList L φL AL H φ AH cs' L1 _ _ hd (by simpa using hl) (fun j c u hj hu => hp j c u hj (by simpa using hu)) hc rfl hk'
    exact ⟨φ1, m, .agg _ _ (by rw [l1, hl]) ho fun i x v hx hv => r1 i x v hx (by simpa using hv)⟩
  · obtain ⟨e, rfl, ht'⟩ := takeE_one (fun cs h => hag ⟨cs, h⟩) ht
    obtain ⟨φ1, m, r, _⟩ := moveT e x v L φL AL H φ AH y L1 a H1 hd hx ht' hw hk
    exact ⟨φ1, m, r⟩

/-! Kept for good. -/
def gone (φ : Phi) (A : Avoid) (L1 : Heap) : Avoid := fun c => A c ∧ (Ow φ c → Ow (restr φ L1) c)

/-- What is taken only grows less: nothing that has gone comes again. -/
theorem gone_less {φ : Phi} {A : Avoid} {L L1 : Heap} (h : Less L L1) {c : Nat} (hc : gone φ A L1 c) : gone φ A L c :=
  ⟨hc.1, fun ho => by
    obtain ⟨i, b, hi⟩ := hc.2 ho
    obtain ⟨h1, bk, h2⟩ := restr_some hi
    exact ⟨i, b, by simp [restr, h.get _ _ h2, h1]⟩⟩

theorem gone_at {w : World} {L L1 : Heap} {φ : Phi} {A : Avoid} (hst : St w L φ A) {id c b0 : Nat} (h : φ id = some (.at_ c b0)) (hn : L1.get id = none) : ¬ gone φ A L1 c := by
  rintro ⟨_, h2⟩
  obtain ⟨i, b, hi⟩ := h2 ⟨id, b0, h⟩
  obtain ⟨h1, bk, h3⟩ := restr_some hi
  have := hst.inj _ _ _ _ _ h1 h
  subst this
  rw [hn] at h3; simp at h3

theorem frz_plain {x : AV} (hp : plainA x = true) : frzV x = x := by
  cases x <;> first | rfl | simp [plainA] at hp

theorem plain_FR {L : Heap} {φL : Phi} {AL A' : Avoid} {x : AV} {v : Value} (hp : plainA x = true) (h : R w L φL AL x v) : FR w A' x v := by
  cases x with
  | undef => exact .undef _
  | int k n => have := h.int_inv; subst this; exact .int _ _
  | bool b => have := h.bool_inv; subst this; exact .bool _
  | str s => obtain ⟨b, rfl, rfl⟩ := h.str_inv; exact .str _
  | errv b => rcases h.errv_inv with ⟨rfl, rfl⟩ | ⟨rfl, t, u, rfl⟩; exact .noerr; exact .err _ _
  | nilp => cases h with | fr _ _ h => cases h; exact .nilp
  | _ => simp [plainA] at hp

theorem frzL_len : ∀ (xs : List AV), (frzL xs).length = xs.length
  | [] => rfl
  | x :: xs => by simp [frzL, frzL_len xs]

/-- What a list's elements become. -/
theorem mapH_less {f : AV → Heap → Option (AV × Heap)} (hf : ∀ x L y L1, f x L = some (y, L1) → Less L L1) : ∀ (xs : List AV) (L : Heap) (ys : List AV) (L1 : Heap), mapH f xs L = some (ys, L1) → Less L L1
  | [], L, ys, L1, h => by simp [mapH] at h; obtain ⟨_, rfl⟩ := h; exact .refl _
  | x :: xs, L, ys, L1, h => by
    simp only [mapH] at h
    split at h
    · rename_i y L' h1
      split at h
      · rename_i ys' L'' h2
        simp only [Option.some.injEq, Prod.mk.injEq] at h
        obtain ⟨_, rfl⟩ := h
        exact (hf _ _ _ _ h1).trans (mapH_less hf xs L' ys' _ h2)
      · simp at h
    · simp at h

mutual
theorem takeT_less : ∀ (sh : Sh) (x : AV) (L : Heap) (y : AV) (L1 : Heap), takeT sh x L = some (y, L1) → Less L L1
  | .sc, x, L, y, L1, ht => by
    simp only [takeT] at ht
    split at ht
    · simp only [Option.some.injEq, Prod.mk.injEq] at ht; obtain ⟨_, rfl⟩ := ht; exact .refl _
    · simp at ht
  | .sl es, x, L, y, L1, ht => by
    cases x with
    | ref id ver off len =>
      simp only [takeT] at ht
      split at ht
      · split at ht
        · split at ht
          · rename_i ys L' hm
            simp only [Option.some.injEq, Prod.mk.injEq] at ht
            obtain ⟨_, rfl⟩ := ht
            exact (Less.del L id).trans (mapH_less (fun x L y L1 h => takeE_less es x L y L1 h) _ _ _ _ hm)
          · simp at ht
        · simp at ht
      · simp at ht
    | _ => first
      | (simp [takeT] at ht; done)
      | (simp only [takeT, Option.some.injEq, Prod.mk.injEq] at ht; obtain ⟨_, rfl⟩ := ht; exact .refl _)
  | .pt es, x, L, y, L1, ht => by
    cases x with
    | fe z o => simp only [takeT, Option.some.injEq, Prod.mk.injEq] at ht; obtain ⟨_, rfl⟩ := ht; exact .refl _
    | ptr id ver idx off =>
      rcases idx with _ | idx
      rotate_left
      · simp [takeT] at ht
      rcases off with _ | off
      rotate_left
      · simp [takeT] at ht
      simp only [takeT] at ht
      split at ht
      · split at ht
        · rename_i y' L' hm
          simp only [Option.some.injEq, Prod.mk.injEq] at ht
          obtain ⟨_, rfl⟩ := ht
          exact (Less.del L id).trans (takeE_less es _ _ _ _ hm)
        · simp at ht
      · simp at ht
    | _ => simp [takeT] at ht
  termination_by sh => (SizeOf.sizeOf sh, 0)
theorem takeE_less : ∀ (es : List Sh) (x : AV) (L : Heap) (y : AV) (L1 : Heap), takeE es x L = some (y, L1) → Less L L1
  | es, x, L, y, L1, ht => by
    by_cases hag : ∃ cs, x = .agg cs
    · obtain ⟨cs, rfl⟩ := hag
      obtain ⟨cs', hc, _⟩ := takeE_agg ht
      exact takeC_less es cs L cs' L1 hc
    · obtain ⟨e, rfl, ht'⟩ := takeE_one (fun cs h => hag ⟨cs, h⟩) ht
      exact takeT_less e x L y L1 ht'
  termination_by es => (SizeOf.sizeOf es, 1)
theorem takeC_less : ∀ (es : List Sh) (cs : List AV) (L : Heap) (ys : List AV) (L1 : Heap), takeC es cs L = some (ys, L1) → Less L L1
  | [], [], L, ys, L1, ht => by simp [takeC] at ht; obtain ⟨_, rfl⟩ := ht; exact .refl _
  | e :: es, x :: cs, L, ys, L1, ht => by
    simp only [takeC] at ht
    split at ht
    · rename_i y L' h1
      split at ht
      · rename_i ys' L'' h2
        simp only [Option.some.injEq, Prod.mk.injEq] at ht
        obtain ⟨_, rfl⟩ := ht
        exact (takeT_less e x L y L' h1).trans (takeC_less es cs L' ys' _ h2)
      · simp at ht
    · simp at ht
  | [], _ :: _, _, _, _, ht => by simp [takeC] at ht
  | _ :: _, [], _, _, _, ht => by simp [takeC] at ht
  termination_by es => (SizeOf.sizeOf es, 0)
end

/-- The elements of a list, kept. -/
theorem frzX {es : List Sh} {A' : Avoid} (hE : ∀ (x : AV) (vs : List Value) (L : Heap) (φL : Phi) (AL : Avoid) (y : AV) (L1 : Heap), St w L φL AL → x.cells.length = vs.length →
      (∀ (j : Nat) (c : AV) (u : Value), x.cells[j]? = some c → vs[j]? = some u → R w L φL AL c u) → takeE es x L = some (y, L1) → (∀ c, A' c → gone φL AL L1 c) →
      (frzV y).cells.length = x.cells.length ∧ ∀ (j : Nat) (c : AV) (u : Value), (frzV y).cells[j]? = some c → vs[j]? = some u → FR w A' c u) :
    ∀ (xs : List AV) (g : Nat → Nat → Value) (L : Heap) (φL : Phi) (AL : Avoid) (ys : List AV) (L1 : Heap), St w L φL AL →
      (∀ (i : Nat) (x : AV) (j : Nat) (c : AV), xs[i]? = some x → x.cells[j]? = some c → R w L φL AL c (g i j)) → mapH (takeE es) xs L = some (ys, L1) → (∀ c, A' c → gone φL AL L1 c) →
      (frzL ys).length = xs.length ∧ (∀ (i : Nat) (x a : AV), xs[i]? = some x → (frzL ys)[i]? = some a → a.cells.length = x.cells.length) ∧
        ∀ (i : Nat) (a : AV) (j : Nat) (c : AV), (frzL ys)[i]? = some a → a.cells[j]? = some c → FR w A' c (g i j)
  | [], g, L, φL, AL, ys, L1, hd, _, ht, hk => by
    simp only [mapH, Option.some.injEq, Prod.mk.injEq] at ht
    obtain ⟨rfl, rfl⟩ := ht
    exact ⟨rfl, by simp, by simp [frzL]⟩
  | x :: xs, g, L, φL, AL, ys, L1, hd, hr, ht, hk => by
    simp only [mapH] at ht
    split at ht
    · rename_i y L' h1
      split at ht
      · rename_i ys' L'' h2
        simp only [Option.some.injEq, Prod.mk.injEq] at ht
        obtain ⟨rfl, rfl⟩ := ht
        let vs : List Value := (List.range x.cells.length).map (g 0)
        have hl1 := takeE_less es x L y L' h1
        have hl2 := mapH_less (fun x L y L1 h => takeE_less es x L y L1 h) _ _ _ _ h2
        obtain ⟨l1, r1⟩ := hE x vs L φL AL y L' hd (by simp [vs]) (fun j c u hj hu => by
          have hjl : j < x.cells.length := (List.getElem?_eq_some_iff.1 hj).1
          have : vs[j]? = some (g 0 j) := by simp [vs, hjl]
          rw [this] at hu
          simp only [Option.some.injEq] at hu; subst hu; exact hr 0 x j c rfl hj) h1 (fun c hc => gone_less hl2 (hk c hc))
        obtain ⟨l2, s2, r2⟩ := frzX hE xs (fun i j => g (i + 1) j) L' (restr φL L') AL ys' L'' (lessSt hd hl1) (fun i x' j c hi hj => (hr (i + 1) x' j c hi hj).mono (lessEvo hl1)) h2 (fun c hc => by
          obtain ⟨k1, k2⟩ := hk c hc
          exact ⟨k1, fun ho => by rw [restr_restr hl2]; exact k2 (restr_ow ho)⟩)
        refine ⟨by simp [frzL, l2], fun i x' a hx ha => ?_, fun i a j c ha hc => ?_⟩
        · cases i with
          | zero => simp [frzL] at hx ha; subst hx; subst ha; exact l1
          | succ i => simp [frzL] at hx ha; exact s2 i x' a hx ha
        · cases i with
          | zero =>
            simp only [frzL, List.getElem?_cons_zero, Option.some.injEq] at ha; subst ha
            have hj : j < x.cells.length := by rw [← l1]; exact (List.getElem?_eq_some_iff.1 hc).1
            exact r1 j c (g 0 j) hc (by simp [vs, hj])
          | succ i => exact r2 i a j c (by simpa [frzL] using ha) hc
      · simp at ht
    · simp at ht

mutual
theorem frzT (sh : Sh) (x : AV) (v : Value) (L : Heap) (φL : Phi) (AL A' : Avoid) (y : AV) (L1 : Heap) (hst : St w L φL AL) (hx : R w L φL AL x v)
    (ht : takeT sh x L = some (y, L1)) (hk : ∀ c, A' c → gone φL AL L1 c) : FR w A' (frzV y) v ∧ (x ≠ .undef → (frzV y).cells = [frzV y]) ∧ (x = .undef → frzV y = .undef) := by
  cases sh with
  | sc =>
    simp only [takeT] at ht
    split at ht
    · rename_i hp
      simp only [Option.some.injEq, Prod.mk.injEq] at ht
      obtain ⟨rfl, rfl⟩ := ht
      rw [frz_plain hp]
      exact ⟨plain_FR hp hx, fun hu => cells_one hu (by rintro cs rfl; simp [plainA] at hp), fun h => h⟩
    · simp at ht
  | sl es =>
    cases x with
    | nil =>
      simp only [takeT, Option.some.injEq, Prod.mk.injEq] at ht
      obtain ⟨rfl, rfl⟩ := ht
      have := hx.nil_inv; subst this
      exact ⟨.fz0 _ _, fun _ => rfl, fun h => by simp at h⟩
    | e0 =>
      simp only [takeT, Option.some.injEq, Prod.mk.injEq] at ht
      obtain ⟨rfl, rfl⟩ := ht
      obtain ⟨a0, rfl⟩ := hx.e0_inv
      exact ⟨.fz0 _ _, fun _ => rfl, fun h => by simp at h⟩
    | fz xs =>
      simp only [takeT, Option.some.injEq, Prod.mk.injEq] at ht
      obtain ⟨rfl, rfl⟩ := ht
      exact ⟨hx.fz_inv.shrink fun c hc => (hk c hc).1, fun _ => rfl, fun h => by simp at h⟩
    | ref id ver off len =>
      simp only [takeT] at ht
      split at ht
      · rename_i b hb
        split at ht
        · rename_i hc
          obtain ⟨c1, c2, c3⟩ := hc
          split at ht
          · rename_i ys L' hm
            simp only [Option.some.injEq, Prod.mk.injEq] at ht
            obtain ⟨rfl, rfl⟩ := ht
            have hg := (Heap.blk_get hb).1
            obtain ⟨hver, _, hr⟩ := hx.ref_inv
            obtain ⟨loc, a0, cap, q1, rfl, q3, q4, q5, q6⟩ := (hr b hb).out
            obtain ⟨bk, hbk, hok⟩ := hst.blk id _ q1
            rw [hg] at hbk
            simp only [Option.some.injEq] at hbk; subst hbk
            have hlss := Less.del L id
            have hl2 := mapH_less (fun x L y L1 h => takeE_less es x L y L1 h) _ _ _ _ hm
            have hnone : L'.get id = none := by
              cases hq : L'.get id with
              | none => rfl
              | some b => have := hl2.get _ _ hq; rw [Heap.get_del, if_pos rfl] at this; simp at this
            have hsub : (subL b.el off len).length = len := by simp [subL]; omega
            have hsubg : ∀ (i : Nat) (x : AV), (subL b.el off len)[i]? = some x → b.el[off + i]? = some x := by
              intro i x hi
              simp only [subL, List.getElem?_take, List.getElem?_drop] at hi
              split at hi
              · exact hi
              · simp at hi
            refine ⟨?_, fun _ => rfl, fun h => by simp at h⟩
            simp only [frzV]
            rcases Nat.eq_zero_or_pos len with hl0 | hlp
            · subst hl0
              have : ys = [] := by
                have h0 : subL b.el off 0 = [] := by simp [subL]
                rw [h0] at hm
                simp [mapH] at hm; exact hm.1
              subst this
              exact .fz0 _ _
            · cases loc with
              | virt => have := hok.virt rfl; rw [this] at q3; simp at q3; omega
              | at_ c b0 =>
                simp only at q6
                rcases q6 with q6 | ⟨h1, h2⟩
                · omega
                obtain ⟨arr, T, fr, k1, k2, k3, k4⟩ := hok.here c b0 rfl
                let g : Nat → Nat → Value := fun i j => arr.getD (b0 + (off + i) * b.sz + j) undef
                have hin : ∀ (i : Nat) (x : AV) (j : Nat), (subL b.el off len)[i]? = some x → j < x.cells.length → b0 + (off + i) * b.sz + j < arr.size := by
                  intro i x j hi hj
                  have hx' := hsubg i x hi
                  have hil : i < len := by rw [← hsub]; exact (List.getElem?_eq_some_iff.1 hi).1
                  rw [hok.sized _ _ hx'] at hj
                  have hle := mul_lt_le (n := b.sz) (show off + i < b.el.length by omega)
                  omega
                have hrel : ∀ (i : Nat) (x : AV) (j : Nat) (c : AV), (subL b.el off len)[i]? = some x → x.cells[j]? = some c → R w (L.del id) (restr φL (L.del id)) AL c (g i j) := by
                  intro i x j c' hi hj
                  have hlt := hin i x j hi (List.getElem?_eq_some_iff.1 hj).1
                  have : g i j = arr[b0 + (off + i) * b.sz + j] := by
                    simp only [g, Array.getD_eq_getD_getElem?, Array.getElem?_eq_getElem hlt, Option.getD_some]
                  rw [this]
                  exact ((k4 _ _ _ _ _ (hsubg i x hi) hj (Array.getElem?_eq_getElem hlt)).1).mono (lessEvo hlss)
                obtain ⟨l1, s1, r1⟩ := frzX (A' := A') (es := es) (fun x vs L φL AL y L1 => frzE es x vs L φL AL A' y L1) _ g _ _ _ _ _ (lessSt hst hlss) hrel hm (fun c hc => by
                  obtain ⟨k1, k2⟩ := hk c hc
                  exact ⟨k1, fun ho => by rw [restr_restr hl2]; exact k2 (restr_ow ho)⟩)
                rw [hsub] at l1
                have hmul : (off + len) * b.sz ≤ b.el.length * b.sz := Nat.mul_le_mul_right _ q3
                have hadd : (off + len) * b.sz = off * b.sz + len * b.sz := Nat.add_mul _ _ _
                have hfz := FR.fz (A := A') (frzL ys) c (b0 + off * b.sz) cap b.sz arr T fr k1 (fun hA => gone_at hst q1 hnone (hk c hA)) (by rw [l1]; exact q4) (by rw [l1]; omega)
                  (fun i a ha => by
                    have hi : i < (subL b.el off len).length := by rw [hsub, ← l1]; exact (List.getElem?_eq_some_iff.1 ha).1
                    rw [s1 i _ a (List.getElem?_eq_getElem hi) ha]
                    exact hok.sized _ _ (hsubg i _ (List.getElem?_eq_getElem hi)))
                  (fun j v hj hv => by
                    rw [l1] at hj
                    have hs0 : 0 < b.sz := by rcases Nat.eq_zero_or_pos b.sz with h | h; · rw [h] at hj; simp at hj
                                              · exact h
                    have hd1 : j / b.sz < len := Nat.div_lt_of_lt_mul (by rw [Nat.mul_comm]; exact hj)
                    have hd2 : j % b.sz < b.sz := Nat.mod_lt _ hs0
                    have hd3 : j = (j / b.sz) * b.sz + j % b.sz := by rw [Nat.mul_comm]; exact (Nat.div_add_mod j b.sz).symm
                    have hel : off + j / b.sz < b.el.length := by omega
                    have hx := List.getElem?_eq_getElem hel
                    have hxl := hok.sized _ _ hx
                    have e : b0 + off * b.sz + j = b0 + (off + j / b.sz) * b.sz + j % b.sz := by rw [Nat.add_mul]; omega
                    rw [e] at hv
                    exact (k4 _ _ _ _ v hx (List.getElem?_eq_getElem (show j % b.sz < _ by rw [hxl]; exact hd2)) hv).2)
                  (fun i a j c' v ha hc hv => by
                    have e : b0 + off * b.sz + i * b.sz + j = b0 + (off + i) * b.sz + j := by rw [Nat.add_mul]; omega
                    rw [e] at hv
                    have : g i j = v := by simp only [g, Array.getD_eq_getD_getElem?, hv, Option.getD_some]
                    rw [← this]
                    exact r1 i a j c' ha hc)
                rw [l1] at hfz
                rw [h1]; exact hfz
          · simp at ht
        · simp at ht
      · simp at ht
    | _ => simp [takeT] at ht
  | pt es =>
    cases x with
    | fe z o =>
      simp only [takeT, Option.some.injEq, Prod.mk.injEq] at ht
      obtain ⟨rfl, rfl⟩ := ht
      exact ⟨hx.fe_inv.shrink fun c hc => (hk c hc).1, fun _ => rfl, fun h => by simp at h⟩
    | ptr id ver idx off =>
      rcases idx with _ | idx
      rotate_left
      · simp [takeT] at ht
      rcases off with _ | off
      rotate_left
      · simp [takeT] at ht
      simp only [takeT] at ht
      split at ht
      · rename_i bver sz bfix z hb
        split at ht
        · rename_i y' L' hm
          simp only [Option.some.injEq, Prod.mk.injEq] at ht
          obtain ⟨rfl, rfl⟩ := ht
          refine ⟨?_, fun _ => rfl, fun h => by simp at h⟩
          have hg := (Heap.blk_get hb).1
          obtain ⟨hver, _, hr⟩ := hx.ptr_inv
          obtain ⟨c, b0, q1, rfl⟩ := hr _ hb
          obtain ⟨bk, hbk, hok⟩ := hst.blk id _ q1
          rw [hg] at hbk
          simp only [Option.some.injEq] at hbk; subst hbk
          obtain ⟨arr, T, fr, k1, k2, k3, k4⟩ := hok.here c b0 rfl
          have hlss := Less.del L id
          have hl2 := takeE_less es _ _ _ _ hm
          have hnone : L'.get id = none := by
            cases hq : L'.get id with
            | none => rfl
            | some b => have := hl2.get _ _ hq; rw [Heap.get_del, if_pos rfl] at this; simp at this
          have hzl : z.cells.length = sz := hok.sized 0 z rfl
          simp only [List.length_singleton, Nat.one_mul] at k3
          let vs : List Value := (arr.extract b0 (b0 + sz)).toList
          have hvs : vs.length = sz := by simp [vs]; omega
          have hvg : ∀ j u, vs[j]? = some u → arr[b0 + j]? = some u := by
            intro j u hu
            simp only [vs, Array.getElem?_toList, Array.getElem?_extract] at hu
            split at hu
            · exact hu
            · simp at hu
          obtain ⟨l1, r1⟩ := frzE es z vs _ _ _ A' _ _ (lessSt hst hlss) (by rw [hvs, hzl]) (fun j c' u hj hu => ((k4 0 z j c' u rfl hj (by simpa using hvg j u hu)).1).mono (lessEvo hlss)) hm (fun c hc => by
            obtain ⟨k1, k2⟩ := hk c hc
            exact ⟨k1, fun ho => by rw [restr_restr hl2]; exact k2 (restr_ow ho)⟩)
          have := FR.fe (A := A') (frzV y') 0 c b0 arr T fr k1 (fun hA => gone_at hst q1 hnone (hk c hA)) (by rw [l1, hzl]; exact k3)
            (fun j v hj hv => by
              rw [l1] at hj
              exact (k4 0 z j _ v rfl (List.getElem?_eq_getElem hj) (by simpa using hv)).2)
            (fun j c' v hc hv => by
              have hj : j < sz := by rw [← hzl, ← l1]; exact (List.getElem?_eq_some_iff.1 hc).1
              exact r1 j c' v hc (by simp only [vs, Array.getElem?_toList, Array.getElem?_extract]; rw [if_pos (by omega)]; exact hv))
          simpa [frzV] using this
        · simp at ht
      · simp at ht
    | _ => simp [takeT] at ht
  termination_by (SizeOf.sizeOf sh, 0)
theorem frzE (es : List Sh) (x : AV) (vs : List Value) (L : Heap) (φL : Phi) (AL A' : Avoid) (y : AV) (L1 : Heap) (hst : St w L φL AL) (hl : x.cells.length = vs.length)
    (hx : ∀ (j : Nat) (c : AV) (u : Value), x.cells[j]? = some c → vs[j]? = some u → R w L φL AL c u) (ht : takeE es x L = some (y, L1)) (hk : ∀ c, A' c → gone φL AL L1 c) :
    (frzV y).cells.length = x.cells.length ∧ ∀ (j : Nat) (c : AV) (u : Value), (frzV y).cells[j]? = some c → vs[j]? = some u → FR w A' c u := by
  by_cases hag : ∃ cs, x = .agg cs
  · obtain ⟨cs, rfl⟩ := hag
    obtain ⟨cs', hc, rfl⟩ := takeE_agg ht
    exact frzC es cs vs L φL AL A' cs' L1 hst hl hx hc hk
  · have hnag : ∀ cs, x ≠ .agg cs := fun cs h => hag ⟨cs, h⟩
    obtain ⟨e, rfl, ht'⟩ := takeE_one hnag ht
    by_cases hu : x = .undef
    · subst hu
      have hv0 : vs = [] := List.eq_nil_of_length_eq_zero (by simpa [AV.cells] using hl.symm)
      subst hv0
      obtain ⟨_, _, h4⟩ := frzT e .undef undef L φL AL A' y L1 hst (.fr _ _ (.undef _)) ht' hk
      exact ⟨by rw [h4 rfl], by simp⟩
    · have hc1 := cells_one hu hnag
      rw [hc1] at hl
      obtain ⟨v, rfl⟩ : ∃ v, vs = [v] := by
        match vs, hl with
        | [v], _ => exact ⟨v, rfl⟩
      obtain ⟨h2, h3, _⟩ := frzT e x v L φL AL A' y L1 hst (hx 0 x v (by rw [hc1]; rfl) rfl) ht' hk
      refine ⟨by rw [h3 hu, hc1]; rfl, fun j c u hj hu' => ?_⟩
      rw [h3 hu] at hj
      cases j with
      | zero => simp at hj hu'; subst hj; subst hu'; exact h2
      | succ j => simp at hj
  termination_by (SizeOf.sizeOf es, 1)
theorem frzC (es : List Sh) (cs : List AV) (vs : List Value) (L : Heap) (φL : Phi) (AL A' : Avoid) (ys : List AV) (L1 : Heap) (hst : St w L φL AL) (hl : cs.length = vs.length)
    (hx : ∀ (j : Nat) (c : AV) (u : Value), cs[j]? = some c → vs[j]? = some u → R w L φL AL c u) (ht : takeC es cs L = some (ys, L1)) (hk : ∀ c, A' c → gone φL AL L1 c) :
    (frzL ys).length = cs.length ∧ ∀ (j : Nat) (c : AV) (u : Value), (frzL ys)[j]? = some c → vs[j]? = some u → FR w A' c u := by
  match es, cs, ht with
  | [], [], ht =>
    simp only [takeC, Option.some.injEq, Prod.mk.injEq] at ht
    obtain ⟨rfl, rfl⟩ := ht
    exact ⟨rfl, by simp [frzL]⟩
  | e :: es, x :: cs, ht =>
    simp only [takeC] at ht
    split at ht
    · rename_i y L' h1
      split at ht
      · rename_i ys' L'' h2
        simp only [Option.some.injEq, Prod.mk.injEq] at ht
        obtain ⟨rfl, rfl⟩ := ht
        have hl1 := takeT_less e x L y L' h1
        have hl2 := takeC_less es cs L' ys' L'' h2
        match vs, hl with
        | v :: vs, hl =>
          obtain ⟨r1, _, _⟩ := frzT e x v L φL AL A' y L' hst (hx 0 x v rfl rfl) h1 (fun c hc => gone_less hl2 (hk c hc))
          obtain ⟨l2, r2⟩ := frzC es cs vs L' (restr φL L') AL A' ys' L'' (lessSt hst hl1) (by simpa using hl) (fun j c u hj hu => (hx (j + 1) c u hj hu).mono (lessEvo hl1)) h2 (fun c hc => by
            obtain ⟨k1, k2⟩ := hk c hc
            exact ⟨k1, fun ho => by rw [restr_restr hl2]; exact k2 (restr_ow ho)⟩)
          refine ⟨by simp [frzL, l2], fun j c u hj hu => ?_⟩
          cases j with
          | zero => simp [frzL] at hj hu; subst hj; subst hu; exact r1
          | succ j => exact r2 j c u (by simpa [frzL] using hj) hu
      · simp at ht
    · simp at ht
  | [], _ :: _, ht => simp [takeC] at ht
  | _ :: _, [], ht => simp [takeC] at ht
  termination_by (SizeOf.sizeOf es, 0)
end
end duo
end Go.VS
