/-
  VS, part 24: values lent.
-/
import Derived.Test.YtkmcnmjjfgahpaaVsW
namespace Go.VS

section snap
variable {w : World} {H : Heap} {φ : Phi} {A : Avoid}

theorem mapM_some {α β : Type} {f : α → Option β} : ∀ {xs : List α} {ys : List β}, xs.mapM f = some ys → ys.length = xs.length ∧ ∀ (i : Nat) (x : α) (y : β), xs[i]? = some x → ys[i]? = some y → f x = some y
  | [], ys, h => by simp at h; subst h; simp
  | x :: xs, ys, h => by
    simp only [List.mapM_cons, Option.bind_eq_bind, Option.bind_eq_some_iff, Option.pure_def, Option.some.injEq] at h
    obtain ⟨y, h1, ys', h2, rfl⟩ := h
    obtain ⟨hl, hp⟩ := mapM_some h2
    refine ⟨by simp [hl], fun i a b ha hb => ?_⟩
    cases i with
    | zero => simp at ha hb; subst ha; subst hb; exact h1
    | succ i => exact hp i a b ha hb

def lentA (φ : Phi) (A : Avoid) : Avoid := fun c => A c ∧ ¬ Ow φ c

def SnapV (w : World) (H : Heap) (φ : Phi) (A : Avoid) (n : Nat) : Prop := ∀ (x : AV) (v : Value) (y : AV), R w H φ A x v → snapV n H x = some y →
  FR w (lentA φ A) y v ∧ (lends x = false → FR w A y v) ∧ ((∀ cs, x ≠ .agg cs) → x ≠ .undef → y.cells = [y]) ∧ (x = .undef → y = .undef)
def SnapE (w : World) (H : Heap) (φ : Phi) (A : Avoid) (n : Nat) : Prop := ∀ (x : AV) (vs : List Value) (y : AV), x.cells.length = vs.length →
  (∀ (j : Nat) (c : AV) (u : Value), x.cells[j]? = some c → vs[j]? = some u → R w H φ A c u) → snapV n H x = some y →
  y.cells.length = x.cells.length ∧ ∀ (j : Nat) (c : AV) (u : Value), y.cells[j]? = some c → vs[j]? = some u → FR w (lentA φ A) c u

theorem lendsL_get : ∀ {xs : List AV}, lendsL xs = false → ∀ (i : Nat) (x : AV), xs[i]? = some x → lends x = false
  | [], _, i, x, h => by simp at h
  | y :: ys, hl, i, x, h => by
    simp only [lendsL, Bool.or_eq_false_iff] at hl
    cases i with
    | zero => simp at h; subst h; exact hl.1
    | succ i => exact lendsL_get hl.2 i x h

theorem snapE_of {n : Nat} (hV : SnapV w H φ A n) (hV' : ∀ m, n = m + 1 → SnapV w H φ A m) : SnapE w H φ A n := by
  intro x vs y hl hx hs
  by_cases hag : ∃ cs, x = .agg cs
  · obtain ⟨cs, rfl⟩ := hag
    cases n with
    | zero => simp [snapV] at hs
    | succ n =>
      simp only [snapV, Option.map_eq_some_iff] at hs
      obtain ⟨ys, hm, rfl⟩ := hs
      obtain ⟨l1, p1⟩ := mapM_some hm
      refine ⟨l1, fun j c u hj hu => ?_⟩
      have hjl : j < cs.length := by rw [← l1]; exact (List.getElem?_eq_some_iff.1 hj).1
      have hc := List.getElem?_eq_getElem hjl
      exact (hV' n rfl _ _ _ (hx j _ u hc hu) (p1 j _ c hc hj)).1
  · have hnag : ∀ cs, x ≠ .agg cs := fun cs h => hag ⟨cs, h⟩
    by_cases hu : x = .undef
    · subst hu
      have hv0 : vs = [] := List.eq_nil_of_length_eq_zero (by simpa [AV.cells] using hl.symm)
      subst hv0
      have := (hV .undef undef y (.fr _ _ (.undef _)) hs).2.2.2 rfl
      subst this
      exact ⟨rfl, by simp⟩
    · have hc1 := cells_one hu hnag
      rw [hc1] at hl
      obtain ⟨v, rfl⟩ : ∃ v, vs = [v] := by
        match vs, hl with
        | [v], _ => exact ⟨v, rfl⟩
      obtain ⟨h1, _, h3, _⟩ := hV x v y (hx 0 x v (by rw [hc1]; rfl) rfl) hs
      have h3 := h3 hnag hu
      refine ⟨by rw [h3, hc1]; rfl, fun j c u hj hu' => ?_⟩
      rw [h3] at hj
      cases j with
      | zero => simp at hj hu'; subst hj; subst hu'; exact h1
      | succ j => simp at hj

theorem snap_ok (hst : St w H φ A) : ∀ n, SnapV w H φ A n ∧ SnapE w H φ A n
  | 0 => by
    have h0 : SnapV w H φ A 0 := fun x v y _ hs => by simp [snapV] at hs
    exact ⟨h0, snapE_of h0 (fun m h => by omega)⟩
  | n + 1 => by
    obtain ⟨hV, hE⟩ := snap_ok hst n
    have key : SnapV w H φ A (n + 1) := by
      have hsub : ∀ c, lentA φ A c → A c := fun c h => h.1
      have hown : ∀ c, Ow φ c → ¬ lentA φ A c := fun c h hl => hl.2 h
      have same : ∀ {x : AV} {v : Value}, FR w A x v → x.cells = [x] → FR w (lentA φ A) x v ∧ (lends x = false → FR w A x v) ∧ ((∀ cs, x ≠ .agg cs) → x ≠ .undef → x.cells = [x]) ∧ (x = .undef → x = .undef) :=
        fun h hc => ⟨h.shrink hsub, fun _ => h, fun _ _ => hc, fun h => h⟩
      intro x v y hx hs
      cases x with
      | undef => simp only [snapV, Option.some.injEq] at hs; subst hs; exact ⟨.undef _, fun _ => .undef _, fun _ h => absurd rfl h, fun h => h⟩
      | int k n => simp only [snapV, Option.some.injEq] at hs; subst hs; cases hx with | fr _ _ h => exact same h rfl
      | bool b => simp only [snapV, Option.some.injEq] at hs; subst hs; cases hx with | fr _ _ h => exact same h rfl
      | str s => simp only [snapV, Option.some.injEq] at hs; subst hs; cases hx with | fr _ _ h => exact same h rfl
      | errv b => simp only [snapV, Option.some.injEq] at hs; subst hs; cases hx with | fr _ _ h => exact same h rfl
      | nilp => simp only [snapV, Option.some.injEq] at hs; subst hs; cases hx with | fr _ _ h => exact same h rfl
      | fz xs => simp only [snapV, Option.some.injEq] at hs; subst hs; cases hx with | fr _ _ h => exact same h rfl
      | fe x o => simp only [snapV, Option.some.injEq] at hs; subst hs; cases hx with | fr _ _ h => exact same h rfl
      | own sz xs => simp [snapV] at hs
      | optr sz x => simp [snapV] at hs
      | tup xs => simp [snapV] at hs
      | nil =>
        simp only [snapV, Option.some.injEq] at hs; subst hs
        have := hx.nil_inv; subst this
        exact ⟨.fz0 _ _, fun _ => .fz0 _ _, fun _ _ => rfl, fun h => by simp at h⟩
      | e0 =>
        simp only [snapV, Option.some.injEq] at hs; subst hs
        obtain ⟨a, rfl⟩ := hx.e0_inv
        exact ⟨.fz0 _ _, fun _ => .fz0 _ _, fun _ _ => rfl, fun h => by simp at h⟩
      | agg cs =>
        simp only [snapV, Option.map_eq_some_iff] at hs
        obtain ⟨ys, hm, rfl⟩ := hs
        obtain ⟨l1, p1⟩ := mapM_some hm
        obtain ⟨vs, rfl, hl, ho, hp⟩ := hx.agg_inv
        have hc : ∀ (i : Nat) (z : AV) (u : Value), ys[i]? = some z → vs[i]? = some u → ∃ c, cs[i]? = some c ∧ R w H φ A c u ∧ snapV n H c = some z := by
          intro i z u hz hu
          have hil : i < cs.length := by rw [← l1]; exact (List.getElem?_eq_some_iff.1 hz).1
          have hc := List.getElem?_eq_getElem hil
          exact ⟨_, hc, hp i _ u hc hu, p1 i _ z hc hz⟩
        refine ⟨.agg _ _ (by rw [l1, hl]) ho fun i z u hz hu => ?_, fun hlen => .agg _ _ (by rw [l1, hl]) ho fun i z u hz hu => ?_, fun h _ => absurd rfl (h cs), fun h => by simp at h⟩
        · obtain ⟨c, h1, h2, h3⟩ := hc i z u hz hu
          exact (hV c u z h2 h3).1
        · obtain ⟨c, h1, h2, h3⟩ := hc i z u hz hu
          exact (hV c u z h2 h3).2.1 (lendsL_get (by simpa [lends] using hlen) i c h1)
      | fn f cs =>
        simp only [snapV, Option.map_eq_some_iff] at hs
        obtain ⟨ys, hm, rfl⟩ := hs
        obtain ⟨l1, p1⟩ := mapM_some hm
        obtain ⟨vs, rfl, hl, hp⟩ := hx.fn_inv
        have hc : ∀ (i : Nat) (z : AV) (u : Value), ys[i]? = some z → vs[i]? = some u → ∃ c, cs[i]? = some c ∧ R w H φ A c u ∧ snapV n H c = some z := by
          intro i z u hz hu
          have hil : i < cs.length := by rw [← l1]; exact (List.getElem?_eq_some_iff.1 hz).1
          have hc := List.getElem?_eq_getElem hil
          exact ⟨_, hc, hp i _ u hc hu, p1 i _ z hc hz⟩
        refine ⟨.fn _ _ _ (by rw [l1, hl]) fun i z u hz hu => ?_, fun hlen => .fn _ _ _ (by rw [l1, hl]) fun i z u hz hu => ?_, fun _ _ => rfl, fun h => by simp at h⟩
        · obtain ⟨c, h1, h2, h3⟩ := hc i z u hz hu
          exact (hV c u z h2 h3).1
        · obtain ⟨c, h1, h2, h3⟩ := hc i z u hz hu
          exact (hV c u z h2 h3).2.1 (lendsL_get (by simpa [lends] using hlen) i c h1)
      | ptr id ver idx off =>
        simp only [snapV] at hs
        split at hs
        · rename_i b hb
          split at hs
          · rename_i x' hx'
            simp only [Option.map_eq_some_iff] at hs
            obtain ⟨y', hy, rfl⟩ := hs
            have hg := (Heap.blk_get hb).1
            obtain ⟨hver, _, hr⟩ := hx.ptr_inv
            obtain ⟨c, b0, q1, rfl⟩ := hr _ hb
            obtain ⟨bk, hbk, hok⟩ := hst.blk id _ q1
            rw [hg] at hbk
            simp only [Option.some.injEq] at hbk; subst hbk
            obtain ⟨arr, T, fr, k1, k2, k3, k4⟩ := hok.here c b0 rfl
            have hidx : idx < b.el.length := (List.getElem?_eq_some_iff.1 hx').1
            have hle := mul_lt_le (n := b.sz) hidx
            have hxl := hok.sized _ _ hx'
            let o := b0 + idx * b.sz
            let vs : List Value := (arr.extract o (o + b.sz)).toList
            have hvs : vs.length = b.sz := by simp [vs, o]; omega
            have hvg : ∀ j u, vs[j]? = some u → arr[o + j]? = some u := by
              intro j u hu
              simp only [vs, Array.getElem?_toList, Array.getElem?_extract] at hu
              split at hu
              · exact hu
              · simp at hu
            obtain ⟨l1, r1⟩ := hE x' vs y' (by rw [hvs, hxl]) (fun j c' u hj hu => (k4 idx x' j c' u hx' hj (hvg j u hu)).1) hy
            refine ⟨?_, fun h => by simp [lends] at h, fun _ _ => rfl, fun h => by simp at h⟩
            refine FR.fe y' off c o arr T fr k1 (hown c ⟨id, b0, q1⟩) (by rw [l1, hxl]; omega) (fun j v hj hv => ?_) (fun j c' v hc hv => ?_)
            · rw [l1] at hj
              exact (k4 idx x' j _ v hx' (List.getElem?_eq_getElem hj) hv).2
            · have hj : j < b.sz := by rw [← hxl, ← l1]; exact (List.getElem?_eq_some_iff.1 hc).1
              exact r1 j c' v hc (by simp only [vs, Array.getElem?_toList, Array.getElem?_extract]; rw [if_pos (by omega)]; exact hv)
          · simp at hs
        · simp at hs
      | ref id ver off len =>
        simp only [snapV] at hs
        split at hs
        · rename_i b hb
          split at hs
          · rename_i hol
            simp only [Option.map_eq_some_iff] at hs
            obtain ⟨ys, hm, rfl⟩ := hs
            obtain ⟨l1, p1⟩ := mapM_some hm
            have hg := (Heap.blk_get hb).1
            obtain ⟨hver, _, hr⟩ := hx.ref_inv
            obtain ⟨loc, a0, cap, q1, rfl, q3, q4, q5, q6⟩ := (hr b hb).out
            obtain ⟨bk, hbk, hok⟩ := hst.blk id _ q1
            rw [hg] at hbk
            simp only [Option.some.injEq] at hbk; subst hbk
            have hsub : (subL b.el off len).length = len := by simp [subL]; omega
            have hsubg : ∀ (i : Nat) (x : AV), (subL b.el off len)[i]? = some x → b.el[off + i]? = some x := by
              intro i x hi
              simp only [subL, List.getElem?_take, List.getElem?_drop] at hi
              split at hi
              · exact hi
              · simp at hi
            rw [hsub] at l1
            refine ⟨?_, fun h => by simp [lends] at h, fun _ _ => rfl, fun h => by simp at h⟩
            rcases Nat.eq_zero_or_pos len with hl0 | hlp
            · subst hl0
              have := List.eq_nil_of_length_eq_zero l1
              subst this
              exact .fz0 _ _
            · cases loc with
              | virt => have := hok.virt rfl; rw [this] at q3; simp at q3; omega
              | at_ c b0 =>
                simp only at q6
                rcases q6 with q6 | ⟨h1, h2⟩
                · omega
                obtain ⟨arr, T, fr, k1, k2, k3, k4⟩ := hok.here c b0 rfl
                have hmul : (off + len) * b.sz ≤ b.el.length * b.sz := Nat.mul_le_mul_right _ q3
                have hadd : (off + len) * b.sz = off * b.sz + len * b.sz := Nat.add_mul _ _ _
                have helt : ∀ (i : Nat) (a : AV), ys[i]? = some a → a.cells.length = b.sz ∧ ∀ (j : Nat) (c' : AV) (v : Value), a.cells[j]? = some c' → arr[b0 + (off + i) * b.sz + j]? = some v → FR w (lentA φ A) c' v := by
                  intro i a ha
                  have hi : i < len := by rw [← l1]; exact (List.getElem?_eq_some_iff.1 ha).1
                  have hx := List.getElem?_eq_getElem (l := subL b.el off len) (by rw [hsub]; exact hi)
                  have hx' := hsubg i _ hx
                  have hxl := hok.sized _ _ hx'
                  have hle := mul_lt_le (n := b.sz) (show off + i < b.el.length by omega)
                  let o := b0 + (off + i) * b.sz
                  let vs : List Value := (arr.extract o (o + b.sz)).toList
                  have hvs : vs.length = b.sz := by simp [vs, o]; omega
                  have hvg : ∀ j u, vs[j]? = some u → arr[o + j]? = some u := by
                    intro j u hu
                    simp only [vs, Array.getElem?_toList, Array.getElem?_extract] at hu
                    split at hu
                    · exact hu
                    · simp at hu
                  obtain ⟨l2, r2⟩ := hE _ vs a (by rw [hvs, hxl]) (fun j c' u hj hu => (k4 _ _ j c' u hx' hj (hvg j u hu)).1) (p1 i _ a hx ha)
                  refine ⟨by rw [l2, hxl], fun j c' v hc hv => r2 j c' v hc ?_⟩
                  have hj : j < b.sz := by rw [← hxl, ← l2]; exact (List.getElem?_eq_some_iff.1 hc).1
                  simp only [vs, Array.getElem?_toList, Array.getElem?_extract]; rw [if_pos (by omega)]; exact hv
                have hfz := FR.fz (A := lentA φ A) ys c (b0 + off * b.sz) cap b.sz arr T fr k1 (hown c ⟨id, b0, q1⟩) (by rw [l1]; exact q4) (by rw [l1]; omega)
                  (fun i a ha => (helt i a ha).1)
                  (fun j v hj hv => by
                    rw [l1] at hj
                    have hs0 : 0 < b.sz := by
                      rcases Nat.eq_zero_or_pos b.sz with h | h
                      · rw [h] at hj; simp at hj
                      · exact h
                    have hd1 : j / b.sz < len := Nat.div_lt_of_lt_mul (by rw [Nat.mul_comm]; exact hj)
                    have hd2 : j % b.sz < b.sz := Nat.mod_lt _ hs0
                    have hd3 : j = (j / b.sz) * b.sz + j % b.sz := by rw [Nat.mul_comm]; exact (Nat.div_add_mod j b.sz).symm
                    have hel : off + j / b.sz < b.el.length := by omega
                    have hx := List.getElem?_eq_getElem hel
                    have hxl := hok.sized _ _ hx
                    have e : b0 + off * b.sz + j = b0 + (off + j / b.sz) * b.sz + j % b.sz := by rw [Nat.add_mul]; omega
                    rw [e] at hv
                    exact (k4 _ _ _ _ v hx (List.getElem?_eq_getElem (show j % b.sz < _ by rw [hxl]; exact hd2)) hv).2)
                  (fun i a j c' v ha hc hv => by
                    have e : b0 + off * b.sz + i * b.sz + j = b0 + (off + i) * b.sz + j := by rw [Nat.add_mul]; omega
                    rw [e] at hv
                    exact (helt i a ha).2 j c' v hc hv)
                rw [l1] at hfz
                rw [h1]; exact hfz
          · simp at hs
        · simp at hs
    exact ⟨key, snapE_of key (fun m h => by have : m = n := by omega
                                            subst this; exact hV)⟩
end snap
end Go.VS
