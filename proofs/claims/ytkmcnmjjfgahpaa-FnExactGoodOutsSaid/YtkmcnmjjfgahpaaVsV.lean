/-
  VS, part 22: handing over, by shapes.
-/
import Derived.Test.YtkmcnmjjfgahpaaVsU
namespace Go.VS

section duo
variable {w : World}

theorem cells_one {x : AV} (h1 : x ≠ .undef) (h2 : ∀ cs, x ≠ .agg cs) : x.cells = [x] := by
  cases x <;> first | rfl | exact absurd rfl h1 | exact absurd rfl (h2 _)

theorem blk_same {H : Heap} {id ver : Nat} {b b' : Blk} (h : H.get id = some b) (h' : H.blk id ver = some b') : b' = b := by
  have := (Heap.blk_get h').1
  rw [h] at this
  simp only [Option.some.injEq] at this
  exact this.symm

mutual
theorem moveT (sh : Sh) (x : AV) (v : Value) (L : Heap) (φL : Phi) (AL : Avoid) (H : Heap) (φ : Phi) (AH : Avoid) (y : AV) (L1 : Heap) (a : AV) (H1 : Heap) (hd : Duo w L φL AL H φ AH) (hx : R w L φL AL x v)
    (ht : takeT sh x L = some (y, L1)) (hw : thawV y H = (a, H1)) (hk : Kfz AL AH y) : ∃ φ1, Moved w L φL AL H φ AH L1 H1 φ1 ∧ R w H1 φ1 AH a v ∧ (x ≠ .undef → a.cells = [a]) ∧ (x = .undef → a = .undef) := by
  cases sh with
  | sc =>
    simp only [takeT] at ht
    split at ht
    · rename_i hp
      simp only [Option.some.injEq, Prod.mk.injEq] at ht
      obtain ⟨rfl, rfl⟩ := ht
      rw [thaw_plain hp] at hw
      simp only [Prod.mk.injEq] at hw
      obtain ⟨rfl, rfl⟩ := hw
      exact ⟨φ, .refl hd, plain_R hp hx, fun hu => cells_one hu (by rintro cs rfl; simp [plainA] at hp), fun h => h⟩
    · simp at ht
  | sl es =>
    have hnil : ∀ {v0 : Option Addr}, v = .slice v0 0 0 → thawV (.own es.length []) H = (a, H1) → L1 = L → ∃ φ1, Moved w L φL AL H φ AH L1 H1 φ1 ∧ R w H1 φ1 AH a v ∧ a.cells = [a] := by
      intro v0 hv hw hL
      subst hL
      simp only [thawV, thawL, Prod.mk.injEq] at hw
      obtain ⟨rfl, rfl⟩ := hw
      have m := newAt (Moved.refl hd) (sz := es.length) (fx := false) (el := []) (loc := .virt) (by simp) (fun _ => rfl) (by simp)
      refine ⟨_, m, ?_, rfl⟩
      refine .ref _ _ _ _ _ (Nat.lt_succ_self _) ⟨_, _, _, hv⟩ fun b hb => ?_
      have := blk_same (Heap.get_new H es.length false []) hb
      subst this
      exact ⟨.virt, v0, 0, by simp, hv, by simp, Nat.le_refl _, by simp, rfl, fun _ => rfl⟩
    cases x with
    | nil =>
      simp only [takeT, Option.some.injEq, Prod.mk.injEq] at ht
      obtain ⟨rfl, rfl⟩ := ht
      obtain ⟨φ1, h1, h2, h3⟩ := hnil hx.nil_inv hw rfl
      exact ⟨φ1, h1, h2, fun _ => h3, fun h => by simp at h⟩
    | e0 =>
      simp only [takeT, Option.some.injEq, Prod.mk.injEq] at ht
      obtain ⟨rfl, rfl⟩ := ht
      obtain ⟨a0, ha0⟩ := hx.e0_inv
      obtain ⟨φ1, h1, h2, h3⟩ := hnil ha0 hw rfl
      exact ⟨φ1, h1, h2, fun _ => h3, fun h => by simp at h⟩
    | fz xs =>
      simp only [takeT, Option.some.injEq, Prod.mk.injEq] at ht
      obtain ⟨rfl, rfl⟩ := ht
      simp only [thawV, Prod.mk.injEq] at hw
      obtain ⟨rfl, rfl⟩ := hw
      rcases hk with hk | hk
      · exact ⟨φ, .refl hd, .fr _ _ (hx.fz_inv.shrink hk), fun _ => rfl, fun h => by simp at h⟩
      · simp [noFz] at hk
    | ref id ver off len =>
      simp only [takeT] at ht
      split at ht
      · rename_i b hb
        split at ht
        · rename_i hc
          obtain ⟨c1, c2, c3⟩ := hc
          split at ht
          · rename_i ys L' hm
            simp only [Option.some.injEq, Prod.mk.injEq] at ht
            obtain ⟨rfl, rfl⟩ := ht
            simp only [thawV, Prod.mk.injEq] at hw
            obtain ⟨rfl, rfl⟩ := hw
            have hg := (Heap.blk_get hb).1
            obtain ⟨hver, _, hr⟩ := hx.ref_inv
            obtain ⟨loc, a0, cap, q1, rfl, q3, q4, q5, q6⟩ := (hr b hb).out
            obtain ⟨bk, hbk, hok⟩ := hd.sl.blk id _ q1
            rw [hg] at hbk
            simp only [Option.some.injEq] at hbk; subst hbk
            have hk' : KfzL AL AH ys := by
              rcases hk with h | h
              · exact .inl h
              · exact .inr (by simpa [noFz] using h)
            have hlss := Less.del L id
            have hd' : Duo w (L.del id) (restr φL (L.del id)) AL H φ AH := ⟨lessSt hd.sl hlss, hd.sh, fun c hc => hd.dis c (restr_ow hc), fun c hc => hd.cov c (restr_ow hc)⟩
            have hsub : (subL b.el off len).length = len := by simp [subL]; omega
            have hsubg : ∀ (i : Nat) (x : AV), (subL b.el off len)[i]? = some x → b.el[off + i]? = some x := by
              intro i x hi
              simp only [subL, List.getElem?_take, List.getElem?_drop] at hi
              split at hi
              · exact hi
              · simp at hi
            -- what lies in memory
            let g : Nat → Nat → Value := match loc with
              | .virt => fun _ _ => undef
              | .at_ c b0 => fun i j => match w.heap[c]? with
                | some (.cells arr _ _) => arr.getD (b0 + (off + i) * es.length + j) undef
                | _ => undef
            have hrel : ∀ (i : Nat) (x : AV) (j : Nat) (c : AV), (subL b.el off len)[i]? = some x → x.cells[j]? = some c → R w (L.del id) (restr φL (L.del id)) AL c (g i j) := by
              intro i x j c hi hj
              have hx' := hsubg i x hi
              have hil : i < len := by rw [← hsub]; exact (List.getElem?_eq_some_iff.1 hi).1
              cases loc with
              | virt => have := hok.virt rfl; rw [this] at hx'; simp at hx'
              | at_ c0 b0 =>
                obtain ⟨arr, T, fr, k1, k2, k3, k4⟩ := hok.here c0 b0 rfl
                have hjl : j < b.sz := by rw [← hok.sized _ _ hx']; exact (List.getElem?_eq_some_iff.1 hj).1
                have hle := mul_lt_le (n := b.sz) (show off + i < b.el.length by omega)
                have hlt : b0 + (off + i) * b.sz + j < arr.size := by omega
                have : g i j = arr[b0 + (off + i) * b.sz + j] := by
                  simp only [g, k1, ← c1, Array.getD_eq_getD_getElem?, Array.getElem?_eq_getElem hlt, Option.getD_some]
                rw [this]
                exact ((k4 _ _ _ _ _ hx' hj (Array.getElem?_eq_getElem hlt)).1).mono (lessEvo hlss)
            obtain ⟨φ1, m, l1, s1, r1⟩ := moveX (w := w) (es := es) (fun x vs L φL AL H φ AH y L1 a H1 => moveE es x vs L φL AL H φ AH y L1 a H1) _ g _ _ _ _ _ _ _ _ _ _ hd' hrel hm rfl hk'
            rw [hsub] at l1
            have hlen2 : ∀ (i : Nat) (a : AV), (thawL ys H).1[i]? = some a → a.cells.length = b.sz := by
              intro i a ha
              have hil : i < (subL b.el off len).length := by rw [hsub, ← l1]; exact (List.getElem?_eq_some_iff.1 ha).1
              have hxi := List.getElem?_eq_getElem hil
              rw [s1 i _ a hxi ha]
              exact hok.sized _ _ (hsubg i _ hxi)
            have hgg : ∀ c b0 arr T fr, loc = .at_ c b0 → w.heap[c]? = some (.cells arr T fr) → ∀ (i j : Nat) (v : Value), i < len → j < b.sz → arr[b0 + (off + i) * b.sz + j]? = some v → g i j = v := by
              intro c b0 arr T fr hl hh i j v _ _ hv
              subst hl
              simp only [g, hh, ← c1, Array.getD_eq_getD_getElem?, hv, Option.getD_some]
            let loc' : Loc := match loc with
              | .virt => .virt
              | .at_ c b0 => if cap = 0 then .virt else .at_ c (b0 + off * b.sz)
            have hloc : loc' = .virt ∧ len = 0 ∨ ∃ c b0, loc = .at_ c b0 ∧ loc' = .at_ c (b0 + off * b.sz) := by
              cases loc with
              | virt => left; refine ⟨rfl, ?_⟩; have := hok.virt rfl; rw [this] at q3; simp at q3; omega
              | at_ c b0 =>
                by_cases hc0 : cap = 0
                · left; exact ⟨by simp [loc', hc0], by omega⟩
                · right; exact ⟨c, b0, rfl, by simp [loc', hc0]⟩
            have M := blkMove hd hb c2 rfl q1 hgg m l1 hlen2 r1 false loc' hloc
            rw [c1] at M
            refine ⟨_, M, ?_, fun _ => rfl, fun h => by simp at h⟩
            refine .ref _ _ _ _ _ (Nat.lt_succ_self _) ⟨_, _, _, rfl⟩ fun b' hb' => ?_
            have := blk_same (Heap.get_new (thawL ys H).2 es.length false (thawL ys H).1) hb'
            subst this
            refine ⟨loc', a0, cap, by simp, by rw [l1], by simp, by omega, by simp only; omega, ?_⟩
            cases loc with
            | virt =>
              simp only at q6
              have hl0 : len = 0 := by have := hok.virt rfl; rw [this] at q3; simp at q3; omega
              refine ⟨List.eq_nil_of_length_eq_zero (by rw [l1, hl0]), fun _ => ?_⟩
              rcases c3 with c3 | c3
              · exact q6.2 c3
              · omega
            | at_ c b0 =>
              simp only at q6
              by_cases hc0 : cap = 0
              · simp only [loc', hc0, if_true]
                exact ⟨List.eq_nil_of_length_eq_zero (by omega), fun _ => by first | trivial | omega | rfl⟩
              · simp only [loc', hc0, if_false]
                rcases q6 with q6 | ⟨h1, h2⟩
                · exact absurd q6 hc0
                · refine Or.inr ⟨by rw [h1]; simp, ?_⟩
                  rw [c1] at h2 ⊢
                  have : (off + cap) * es.length = off * es.length + cap * es.length := Nat.add_mul _ _ _
                  simp only [Nat.zero_add]
                  omega
          · simp at ht
        · simp at ht
      · simp at ht
    | _ => simp [takeT] at ht
  | pt es =>
    cases x with
    | fe z o =>
      simp only [takeT, Option.some.injEq, Prod.mk.injEq] at ht
      obtain ⟨rfl, rfl⟩ := ht
      simp only [thawV, Prod.mk.injEq] at hw
      obtain ⟨rfl, rfl⟩ := hw
      rcases hk with hk | hk
      · exact ⟨φ, .refl hd, .fr _ _ (hx.fe_inv.shrink hk), fun _ => rfl, fun h => by simp at h⟩
      · simp [noFz] at hk
    | ptr id ver idx off =>
      rcases idx with _ | idx
      rotate_left
      · simp [takeT] at ht
      rcases off with _ | off
      rotate_left
      · simp [takeT] at ht
      simp only [takeT] at ht
      split at ht
      · rename_i bver sz bfix z hb
        split at ht
        · rename_i y' L' hm
          simp only [Option.some.injEq, Prod.mk.injEq] at ht
          obtain ⟨rfl, rfl⟩ := ht
          simp only [thawV, Prod.mk.injEq] at hw
          obtain ⟨rfl, rfl⟩ := hw
          have hg := (Heap.blk_get hb).1
          obtain ⟨hver, _, hr⟩ := hx.ptr_inv
          obtain ⟨c, b0, q1, rfl⟩ := hr _ hb
          obtain ⟨bk, hbk, hok⟩ := hd.sl.blk id _ q1
          rw [hg] at hbk
          simp only [Option.some.injEq] at hbk; subst hbk
          obtain ⟨arr, T, fr, k1, k2, k3, k4⟩ := hok.here c b0 rfl
          have hk' : Kfz AL AH y' := by
            rcases hk with h | h
            · exact .inl h
            · exact .inr (by simpa [noFz] using h)
          have hlss := Less.del L id
          have hd' : Duo w (L.del id) (restr φL (L.del id)) AL H φ AH := ⟨lessSt hd.sl hlss, hd.sh, fun c hc => hd.dis c (restr_ow hc), fun c hc => hd.cov c (restr_ow hc)⟩
          have hzl : z.cells.length = sz := hok.sized 0 z rfl
          simp only [List.length_singleton, Nat.one_mul] at k3
          let vs : List Value := (arr.extract b0 (b0 + sz)).toList
          have hvs : vs.length = sz := by simp [vs]; omega
          have hvg : ∀ j u, vs[j]? = some u → arr[b0 + j]? = some u := by
            intro j u hu
            simp only [vs, Array.getElem?_toList, Array.getElem?_extract] at hu
            split at hu
            · exact hu
            · simp at hu
          obtain ⟨φ1, m, l1, r1⟩ := moveE es z vs _ _ _ _ _ _ _ _ _ _ hd' (by rw [hvs, hzl]) (fun j c' u hj hu => ((k4 0 z j c' u rfl hj (by simpa using hvg j u hu)).1).mono (lessEvo hlss)) hm rfl hk'
          have M := blkMove (as := [(thawV y' H).1]) (n := 1) (off := 0) (sz := sz) (loc' := .at_ c b0) (g := fun i j => vs.getD j undef) hd hb (by simp) rfl q1 (fun c' b0' arr' T' fr' hl hh i j v hi hj hv => by
              simp only [Loc.at_.injEq] at hl
              obtain ⟨rfl, rfl⟩ := hl
              rw [k1] at hh
              simp only [Option.some.injEq, Obj.cells.injEq] at hh
              obtain ⟨rfl, _, _⟩ := hh
              have hi0 : i = 0 := by omega
              subst hi0
              simp only [Nat.zero_mul, Nat.add_zero] at hv
              have : vs[j]? = some v := by
                simp only [vs, Array.getElem?_toList, Array.getElem?_extract]
                rw [if_pos (by omega)]; exact hv
              simp [List.getD, this]) m rfl (fun i a ha => by
              cases i with
              | zero => simp at ha; subst ha; rw [l1, hzl]
              | succ i => simp at ha) (fun i a j c' ha hc => by
              cases i with
              | zero =>
                simp at ha; subst ha
                have hj : j < vs.length := by rw [hvs, ← hzl, ← l1]; exact (List.getElem?_eq_some_iff.1 hc).1
                have := r1 j c' vs[j] hc (List.getElem?_eq_getElem hj)
                simpa [List.getD, hj] using this
              | succ i => simp at ha) false (.inr ⟨c, b0, rfl, by simp⟩)
          refine ⟨_, M, ?_, fun _ => rfl, fun h => by simp at h⟩
          refine .ptr _ _ _ _ _ (Nat.lt_succ_self _) ⟨_, rfl⟩ fun b' hb' => ⟨c, b0, by simp, ?_⟩
          simp
        · simp at ht
      · simp at ht
    | _ => simp [takeT] at ht
  termination_by (SizeOf.sizeOf sh, 0)
theorem moveE (es : List Sh) (x : AV) (vs : List Value) (L : Heap) (φL : Phi) (AL : Avoid) (H : Heap) (φ : Phi) (AH : Avoid) (y : AV) (L1 : Heap) (a : AV) (H1 : Heap) (hd : Duo w L φL AL H φ AH) (hl : x.cells.length = vs.length)
    (hx : ∀ (j : Nat) (c : AV) (u : Value), x.cells[j]? = some c → vs[j]? = some u → R w L φL AL c u) (ht : takeE es x L = some (y, L1)) (hw : thawV y H = (a, H1)) (hk : Kfz AL AH y) :
    ∃ φ1, Moved w L φL AL H φ AH L1 H1 φ1 ∧ a.cells.length = x.cells.length ∧ ∀ (j : Nat) (c : AV) (u : Value), a.cells[j]? = some c → vs[j]? = some u → R w H1 φ1 AH c u := by
  by_cases hag : ∃ cs, x = .agg cs
  · obtain ⟨cs, rfl⟩ := hag
    have ht' : ∃ cs', takeC es cs L = some (cs', L1) ∧ y = .agg cs' := by
      match es, ht with
      | [], ht =>
        simp only [takeE] at ht
        split at ht
        · rename_i cs' L' hc
          simp only [Option.some.injEq, Prod.mk.injEq] at ht
          obtain ⟨rfl, rfl⟩ := ht
          exact ⟨cs', hc, rfl⟩
        · simp at ht
      | [e], ht =>
        simp only [takeE] at ht
        split at ht
        · rename_i cs' L' hc
          simp only [Option.some.injEq, Prod.mk.injEq] at ht
          obtain ⟨rfl, rfl⟩ := ht
          exact ⟨cs', hc, rfl⟩
        · simp at ht
      | e :: e' :: es, ht =>
        simp only [takeE] at ht
        split at ht
        · rename_i cs' L' hc
          simp only [Option.some.injEq, Prod.mk.injEq] at ht
          obtain ⟨rfl, rfl⟩ := ht
          exact ⟨cs', hc, rfl⟩
        · simp at ht
    obtain ⟨cs', hc, rfl⟩ := ht'
    simp only [thawV, Prod.mk.injEq] at hw
    obtain ⟨rfl, rfl⟩ := hw
    have hk' : KfzL AL AH cs' := by
      rcases hk with h | h
      · exact .inl h
      · exact .inr (by simpa [noFz] using h)
    exact moveC es cs vs L φL AL H φ AH cs' L1 _ _ hd hl hx hc rfl hk'
  · have hnag : ∀ cs, x ≠ .agg cs := fun cs h => hag ⟨cs, h⟩
    match es, ht with
    | [e], ht =>
      have ht' : takeT e x L = some (y, L1) := by
        cases x <;> first | (simpa only [takeE] using ht) | exact absurd rfl (hnag _)
      by_cases hu : x = .undef
      · subst hu
        have hv0 : vs = [] := List.eq_nil_of_length_eq_zero (by simpa [AV.cells] using hl.symm)
        subst hv0
        obtain ⟨φ1, m, _, _, h4⟩ := moveT e .undef undef L φL AL H φ AH y L1 a H1 hd (.fr _ _ (.undef _)) ht' hw hk
        exact ⟨φ1, m, by rw [h4 rfl], by simp⟩
      · have hc1 := cells_one hu hnag
        rw [hc1] at hl
        obtain ⟨v, rfl⟩ : ∃ v, vs = [v] := by
          match vs, hl with
          | [v], _ => exact ⟨v, rfl⟩
        obtain ⟨φ1, m, h2, h3, _⟩ := moveT e x v L φL AL H φ AH y L1 a H1 hd (hx 0 x v (by rw [hc1]; rfl) rfl) ht' hw hk
        refine ⟨φ1, m, by rw [h3 hu, hc1]; rfl, fun j c u hj hu' => ?_⟩
        rw [h3 hu] at hj
        cases j with
        | zero => simp at hj hu'; subst hj; subst hu'; exact h2
        | succ j => simp at hj
    | [], ht => cases x <;> first | (simp [takeE] at ht; done) | exact absurd rfl (hnag _)
    | _ :: _ :: _, ht => cases x <;> first | (simp [takeE] at ht; done) | exact absurd rfl (hnag _)
  termination_by (SizeOf.sizeOf es, 1)
theorem moveC (es : List Sh) (cs : List AV) (vs : List Value) (L : Heap) (φL : Phi) (AL : Avoid) (H : Heap) (φ : Phi) (AH : Avoid) (ys : List AV) (L1 : Heap) (as : List AV) (H1 : Heap) (hd : Duo w L φL AL H φ AH) (hl : cs.length = vs.length)
    (hx : ∀ (j : Nat) (c : AV) (u : Value), cs[j]? = some c → vs[j]? = some u → R w L φL AL c u) (ht : takeC es cs L = some (ys, L1)) (hw : thawL ys H = (as, H1)) (hk : KfzL AL AH ys) :
    ∃ φ1, Moved w L φL AL H φ AH L1 H1 φ1 ∧ as.length = cs.length ∧ ∀ (j : Nat) (c : AV) (u : Value), as[j]? = some c → vs[j]? = some u → R w H1 φ1 AH c u := by
  match es, cs, ht with
  | [], [], ht =>
    simp only [takeC, Option.some.injEq, Prod.mk.injEq] at ht
    obtain ⟨rfl, rfl⟩ := ht
    simp only [thawL, Prod.mk.injEq] at hw
    obtain ⟨rfl, rfl⟩ := hw
    exact ⟨φ, .refl hd, rfl, by simp⟩
  | e :: es, x :: cs, ht =>
    simp only [takeC] at ht
    split at ht
    · rename_i y L' h1
      split at ht
      · rename_i ys' L'' h2
        simp only [Option.some.injEq, Prod.mk.injEq] at ht
        obtain ⟨rfl, rfl⟩ := ht
        simp only [thawL, Prod.mk.injEq] at hw
        obtain ⟨rfl, rfl⟩ := hw
        obtain ⟨k1, k2⟩ := hk.cons
        match vs, hl with
        | v :: vs, hl =>
          obtain ⟨φ1, m1, r1, _, _⟩ := moveT e x v L φL AL H φ AH y L' _ _ hd (hx 0 x v rfl rfl) h1 rfl k1
          obtain ⟨φ2, m2, l2, r2⟩ := moveC es cs vs L' (restr φL L') AL _ φ1 AH ys' L'' _ _ m1.duo (by simpa using hl) (fun j c u hj hu => (hx (j + 1) c u hj hu).mono (lessEvo m1.less)) h2 rfl k2
          refine ⟨φ2, m1.trans m2, by simp [l2], fun j c u hj hu => ?_⟩
          cases j with
          | zero => simp at hj hu; subst hj; subst hu; exact r1.mono m2.eh
          | succ j => exact r2 j c u hj hu
      · simp at ht
    · simp at ht
  | [], _ :: _, ht => simp [takeC] at ht
  | _ :: _, [], ht => simp [takeC] at ht
  termination_by (SizeOf.sizeOf es, 0)
end
end duo
end Go.VS
