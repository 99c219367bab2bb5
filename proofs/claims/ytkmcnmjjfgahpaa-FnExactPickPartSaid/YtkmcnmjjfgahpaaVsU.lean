/-
  VS, part 21: values handed over, lent, and kept from then on.
-/
import Derived.Test.YtkmcnmjjfgahpaaVsT
namespace Go.VS

section duo
variable {w : World}

theorem plain_R {L H : Heap} {φL φ : Phi} {AL AH : Avoid} {x : AV} {v : Value} (hp : plainA x = true) (h : R w L φL AL x v) : R w H φ AH x v := by
  cases x with
  | undef => exact .fr _ _ (.undef _)
  | int k n => have := h.int_inv; subst this; exact .fr _ _ (.int _ _)
  | bool b => have := h.bool_inv; subst this; exact .fr _ _ (.bool _)
  | str s => obtain ⟨b, rfl, rfl⟩ := h.str_inv; exact .fr _ _ (.str _)
  | errv b => rcases h.errv_inv with ⟨rfl, rfl⟩ | ⟨rfl, t, u, rfl⟩; exact .fr _ _ .noerr; exact .fr _ _ (.err _ _)
  | nilp => cases h with | fr _ _ h => cases h; exact .fr _ _ .nilp
  | _ => simp [plainA] at hp

theorem thaw_plain {x : AV} (hp : plainA x = true) (H : Heap) : thawV x H = (x, H) := by
  cases x <;> first | rfl | simp [plainA] at hp

def Kfz (AL AH : Avoid) (y : AV) : Prop := (∀ c, AH c → AL c) ∨ noFz y = true
def KfzL (AL AH : Avoid) (ys : List AV) : Prop := (∀ c, AH c → AL c) ∨ noFzL ys = true

theorem KfzL.cons {AL AH : Avoid} {y : AV} {ys : List AV} (h : KfzL AL AH (y :: ys)) : Kfz AL AH y ∧ KfzL AL AH ys := by
  rcases h with h | h
  · exact ⟨.inl h, .inl h⟩
  · simp only [noFzL, Bool.and_eq_true] at h
    exact ⟨.inr h.1, .inr h.2⟩

/-- A list of elements handed over, each by what hands one over. -/
theorem moveX {es : List Sh} (hE : ∀ (x : AV) (vs : List Value) (L : Heap) (φL : Phi) (AL : Avoid) (H : Heap) (φ : Phi) (AH : Avoid) (y : AV) (L1 : Heap) (a : AV) (H1 : Heap), Duo w L φL AL H φ AH → x.cells.length = vs.length →
      (∀ (j : Nat) (c : AV) (u : Value), x.cells[j]? = some c → vs[j]? = some u → R w L φL AL c u) → takeE es x L = some (y, L1) → thawV y H = (a, H1) → Kfz AL AH y →
      ∃ φ1, Moved w L φL AL H φ AH L1 H1 φ1 ∧ a.cells.length = x.cells.length ∧ ∀ (j : Nat) (c : AV) (u : Value), a.cells[j]? = some c → vs[j]? = some u → R w H1 φ1 AH c u) :
    ∀ (xs : List AV) (g : Nat → Nat → Value) (L : Heap) (φL : Phi) (AL : Avoid) (H : Heap) (φ : Phi) (AH : Avoid) (ys : List AV) (L1 : Heap) (as : List AV) (H1 : Heap), Duo w L φL AL H φ AH →
      (∀ (i : Nat) (x : AV) (j : Nat) (c : AV), xs[i]? = some x → x.cells[j]? = some c → R w L φL AL c (g i j)) → mapH (takeE es) xs L = some (ys, L1) → thawL ys H = (as, H1) → KfzL AL AH ys →
      ∃ φ1, Moved w L φL AL H φ AH L1 H1 φ1 ∧ as.length = xs.length ∧ (∀ (i : Nat) (x a : AV), xs[i]? = some x → as[i]? = some a → a.cells.length = x.cells.length) ∧
        ∀ (i : Nat) (a : AV) (j : Nat) (c : AV), as[i]? = some a → a.cells[j]? = some c → R w H1 φ1 AH c (g i j)
  | [], g, L, φL, AL, H, φ, AH, ys, L1, as, H1, hd, _, ht, hw, _ => by
    simp only [mapH, Option.some.injEq, Prod.mk.injEq] at ht
    obtain ⟨rfl, rfl⟩ := ht
    simp only [thawL, Prod.mk.injEq] at hw
    obtain ⟨rfl, rfl⟩ := hw
    exact ⟨φ, .refl hd, rfl, by simp, by simp⟩
  | x :: xs, g, L, φL, AL, H, φ, AH, ys, L1, as, H1, hd, hr, ht, hw, hk => by
    simp only [mapH] at ht
    split at ht
    · rename_i y L' h1
      split at ht
      · rename_i ys' L'' h2
        simp only [Option.some.injEq, Prod.mk.injEq] at ht
        obtain ⟨rfl, rfl⟩ := ht
        obtain ⟨k1, k2⟩ := hk.cons
        simp only [thawL, Prod.mk.injEq] at hw
        obtain ⟨rfl, rfl⟩ := hw
        let vs : List Value := (List.range x.cells.length).map (g 0)
        obtain ⟨φ1, m1, l1, r1⟩ := hE x vs L φL AL H φ AH y L' _ _ hd (by simp [vs]) (fun j c u hj hu => by
          have hjl : j < x.cells.length := (List.getElem?_eq_some_iff.1 hj).1
          have : vs[j]? = some (g 0 j) := by simp [vs, hjl]
          rw [this] at hu
          simp only [Option.some.injEq] at hu; subst hu; exact hr 0 x j c rfl hj) h1 rfl k1
        obtain ⟨φ2, m2, l2, s2, r2⟩ := moveX hE xs (fun i j => g (i + 1) j) L' (restr φL L') AL _ φ1 AH ys' L'' _ _ m1.duo (fun i x' j c hi hj => (hr (i + 1) x' j c hi hj).mono (lessEvo m1.less)) h2 rfl k2
        refine ⟨φ2, m1.trans m2, by simp [l2], fun i x' a hx ha => ?_, fun i a j c ha hc => ?_⟩
        · cases i with
          | zero => simp at hx ha; subst hx; subst ha; exact l1
          | succ i => exact s2 i x' a hx ha
        · cases i with
          | zero =>
            simp only [List.getElem?_cons_zero, Option.some.injEq] at ha; subst ha
            have hj : j < x.cells.length := by rw [← l1]; exact (List.getElem?_eq_some_iff.1 hc).1
            exact (r1 j c (g 0 j) hc (by simp [vs, hj])).mono m2.eh
          | succ i => exact r2 i a j c ha hc
      · simp at ht
    · simp at ht

/-- What a slice or a variable in the heap is, as it is handed over. -/
theorem blkMove {L : Heap} {φL : Phi} {AL : Avoid} {H : Heap} {φ : Phi} {AH : Avoid} (hd : Duo w L φL AL H φ AH) {id ver : Nat} {b : Blk} (hb : L.blk id ver = some b) {off n : Nat} (hle : off + n ≤ b.el.length) {sz : Nat} (hs : b.sz = sz) {loc : Loc} (hφ : φL id = some loc)
    {L1 : Heap} {as : List AV} {H1 : Heap} {g : Nat → Nat → Value} {φ1 : Phi} (hg : ∀ c b0 arr T fr, loc = .at_ c b0 → w.heap[c]? = some (.cells arr T fr) → ∀ (i j : Nat) (v : Value), i < n → j < sz → arr[b0 + (off + i) * sz + j]? = some v → g i j = v)
    (m : Moved w (L.del id) (restr φL (L.del id)) AL H φ AH L1 H1 φ1) (hl : as.length = n) (hsd : ∀ (i : Nat) (a : AV), as[i]? = some a → a.cells.length = sz)
    (hr : ∀ (i : Nat) (a : AV) (j : Nat) (c : AV), as[i]? = some a → a.cells[j]? = some c → R w H1 φ1 AH c (g i j)) (fx : Bool) (loc' : Loc) (hloc : loc' = .virt ∧ n = 0 ∨ ∃ c b0, loc = .at_ c b0 ∧ loc' = .at_ c (b0 + off * sz)) :
    Moved w L φL AL H φ AH L1 (H1.new sz fx as) (fun i => if i = H1.bs.length then some loc' else φ1 i) := by
  have hgt := (Heap.blk_get hb).1
  have hless := (Less.del L id).trans m.less
  have hrr : restr (restr φL (L.del id)) L1 = restr φL L1 := restr_restr m.less
  have m' : Moved w L φL AL H φ AH L1 H1 φ1 := by
    refine ⟨hless, by have := m.duo; rwa [hrr] at this, m.eh, fun c hc => ?_, m.oh', m.hlen, m.hget, m.hphi⟩
    rcases m.oh c hc with h | ⟨h1, h2⟩
    · exact .inl h
    · rw [hrr] at h2; exact .inr ⟨restr_ow h1, h2⟩
  refine newAt m' hsd (fun hv => ?_) (fun c b1 he => ?_)
  · rcases hloc with ⟨_, h0⟩ | ⟨c, b0, _, h2⟩
    · exact List.eq_nil_of_length_eq_zero (by omega)
    · rw [h2] at hv; simp at hv
  · rcases hloc with ⟨h1, _⟩ | ⟨c', b0, h1, h2⟩
    · rw [h1] at he; simp at he
    · rw [h2] at he
      simp only [Loc.at_.injEq] at he
      obtain ⟨rfl, rfl⟩ := he
      subst h1
      have hoc : Ow φL c' := ⟨id, b0, hφ⟩
      have hnot : ¬ Ow (restr φL L1) c' := by
        rintro ⟨i, bb, hi⟩
        obtain ⟨hi1, bk, hbk⟩ := restr_some hi
        have := hd.sl.inj _ _ _ _ _ hi1 hφ
        subst this
        have := m.less.get _ _ hbk
        rw [Heap.get_del, if_pos rfl] at this
        simp at this
      refine ⟨hoc, hnot, fun ho => ?_, hd.cov _ hoc, ?_⟩
      · rcases m.oh c' ho with h | ⟨⟨i, bb, hi⟩, _⟩
        · exact hd.dis c' hoc h
        · obtain ⟨hi1, bk, hbk⟩ := restr_some hi
          have := hd.sl.inj _ _ _ _ _ hi1 hφ
          subst this
          rw [Heap.get_del, if_pos rfl] at hbk
          simp at hbk
      · obtain ⟨bk, hbk, hok⟩ := hd.sl.blk id _ hφ
        rw [hgt] at hbk
        simp only [Option.some.injEq] at hbk; subst hbk
        obtain ⟨arr, T, fr, k1, k2, k3, k4⟩ := hok.here c' b0 rfl
        have hmul : off * sz + n * sz ≤ b.el.length * sz := by rw [← Nat.add_mul]; exact Nat.mul_le_mul_right _ hle
        refine ⟨arr, T, fr, k1, k2, by rw [hl]; rw [hs] at k3; omega, fun i a j c v ha hc hv => ?_⟩
        have hi : i < n := by rw [← hl]; exact (List.getElem?_eq_some_iff.1 ha).1
        have hj : j < sz := by rw [← hsd i a ha]; exact (List.getElem?_eq_some_iff.1 hc).1
        have e : b0 + off * sz + i * sz + j = b0 + (off + i) * sz + j := by rw [Nat.add_mul]; omega
        rw [e] at hv
        have hgv := hg c' b0 arr T fr rfl k1 i j v hi hj hv
        refine ⟨by rw [← hgv]; exact hr i a j c ha hc, ?_⟩
        have hel : off + i < b.el.length := by omega
        have hx := List.getElem?_eq_getElem hel
        have hxl := hok.sized _ _ hx
        exact (k4 (off + i) _ j _ v hx (List.getElem?_eq_getElem (by omega)) (by rw [hs]; exact hv)).2
end duo
end Go.VS
