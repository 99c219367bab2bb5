/-
  VS, part 33: values handed over, into a heap that has them already (for regions whose order is open).
-/
import Derived.Test.YtkmcnmjjfgahpaaVtF
namespace Go.VS

def Grow (H H1 : Heap) : Prop := Ext H H1 ∧ H.bs.length ≤ H1.bs.length

theorem Ext.trans {H H1 H2 : Heap} (h : Ext H H1) (k : Ext H1 H2) : Ext H H2 := ⟨fun id b hb => k.1 id b (h.1 id b hb), Nat.le_trans h.2 k.2⟩
theorem Grow.refl (H : Heap) : Grow H H := ⟨Ext.refl _, Nat.le_refl _⟩
theorem Grow.trans {H H1 H2 : Heap} (h : Grow H H1) (k : Grow H1 H2) : Grow H H2 := ⟨h.1.trans k.1, Nat.le_trans h.2 k.2⟩
theorem Grow.new (H : Heap) (sz : Nat) (fx : Bool) (el : List AV) : Grow H (H.new sz fx el) := ⟨Heap.ext_new H sz fx el, by simp [Heap.new]⟩

mutual
theorem thawV_grow : ∀ (y : AV) (H : Heap), Grow H (thawV y H).2
  | .own sz xs, H => by simp only [thawV]; exact (thawL_grow xs H).trans (.new _ _ _ _)
  | .optr sz x, H => by simp only [thawV]; exact (thawV_grow x H).trans (.new _ _ _ _)
  | .agg xs, H => by simp only [thawV]; exact thawL_grow xs H
  | .tup xs, H => by simp only [thawV]; exact thawL_grow xs H
  | .undef, H => .refl _
  | .int _ _, H => .refl _
  | .bool _, H => .refl _
  | .str _, H => .refl _
  | .nil, H => .refl _
  | .e0, H => .refl _
  | .fz _, H => .refl _
  | .ref _ _ _ _, H => .refl _
  | .ptr _ _ _ _, H => .refl _
  | .fe _ _, H => .refl _
  | .fn _ _, H => .refl _
  | .errv _, H => .refl _
  | .nilp, H => .refl _
theorem thawL_grow : ∀ (ys : List AV) (H : Heap), Grow H (thawL ys H).2
  | [], H => .refl _
  | y :: ys, H => by simp only [thawL]; exact (thawV_grow y H).trans (thawL_grow ys _)
end

/-- A heap that holds what is to come. -/
structure GH (G : Heap) (φ : Phi) (H H1 : Heap) : Prop where
  ext : Ext H1 G
  none : ∀ id, H.bs.length ≤ id → id < H1.bs.length → φ id = none

theorem new_len (H : Heap) (sz : Nat) (fx : Bool) (el : List AV) : (H.new sz fx el).bs.length = H.bs.length + 1 := by simp [Heap.new]

theorem GH.fst {G : Heap} {φ : Phi} {H H1 H2 : Heap} (h : GH G φ H H2) (k : Grow H1 H2) : GH G φ H H1 := ⟨k.1.trans h.ext, fun id h1 h2 => h.none id h1 (Nat.lt_of_lt_of_le h2 k.2)⟩

section duo
variable {w : World}

structure MG (w : World) (L : Heap) (φL : Phi) (AL : Avoid) (G : Heap) (φ : Phi) (AH : Avoid) (L1 : Heap) (φ1 : Phi) (lo hi : Nat) : Prop where
  less : Less L L1
  duo : Duo w L1 (restr φL L1) AL G φ1 AH
  oh : ∀ c, Ow φ1 c → Ow φ c ∨ (Ow φL c ∧ ¬ Ow (restr φL L1) c)
  oh' : ∀ c, Ow φ c → Ow φ1 c
  hphi : ∀ id loc, φ id = some loc → φ1 id = some loc
  new : ∀ id loc, φ1 id = some loc → φ id = some loc ∨ (lo ≤ id ∧ id < hi)
  le : lo ≤ hi

theorem MG.eh {L : Heap} {φL : Phi} {AL : Avoid} {G : Heap} {φ : Phi} {AH : Avoid} {L1 : Heap} {φ1 : Phi} {lo hi : Nat} (m : MG w L φL AL G φ AH L1 φ1 lo hi) : Evo w G φ AH w G φ1 AH :=
  ⟨fun _c _arr _T fr hc hn => ⟨⟨fr, hc⟩, hn⟩, Nat.le_refl _, fun id b hb _ => ⟨b, hb, rfl, rfl, rfl, rfl, fun loc h => m.hphi id loc h⟩, fun _ _ => rfl⟩

theorem MG.refl {L : Heap} {φL : Phi} {AL : Avoid} {G : Heap} {φ : Phi} {AH : Avoid} (h : Duo w L φL AL G φ AH) (lo : Nat) : MG w L φL AL G φ AH L φ lo lo :=
  ⟨.refl _, ⟨lessSt h.sl (.refl _), h.sh, fun c hc => h.dis c (restr_ow hc), fun c hc => h.cov c (restr_ow hc)⟩, fun _c hc => .inl hc, fun _c hc => hc, fun _ _ h => h, fun _ _ h => .inl h, Nat.le_refl _⟩

theorem MG.trans {L L1 L2 : Heap} {φL : Phi} {AL : Avoid} {G : Heap} {φ φ1 φ2 : Phi} {AH : Avoid} {lo mi hi : Nat} (h : MG w L φL AL G φ AH L1 φ1 lo mi) (k : MG w L1 (restr φL L1) AL G φ1 AH L2 φ2 mi hi) : MG w L φL AL G φ AH L2 φ2 lo hi := by
  have hr := restr_restr (φ := φL) k.less
  refine ⟨h.less.trans k.less, by rw [← hr]; exact k.duo, fun c hc => ?_, fun c hc => k.oh' c (h.oh' c hc), fun id loc hl => k.hphi id loc (h.hphi id loc hl), fun id loc hl => ?_, Nat.le_trans h.le k.le⟩
  · rcases k.oh c hc with h1 | ⟨h1, h2⟩
    · rcases h.oh c h1 with h3 | ⟨h3, h4⟩
      · exact .inl h3
      · refine .inr ⟨h3, fun h5 => h4 ?_⟩
        rw [← hr] at h5
        exact restr_ow h5
    · rw [hr] at h2
      exact .inr ⟨restr_ow h1, h2⟩
  · have h1 := h.le
    have h2 := k.le
    rcases k.new id loc hl with h3 | ⟨h3, h4⟩
    · rcases h.new id loc h3 with h5 | ⟨h5, h6⟩
      · exact .inl h5
      · exact .inr ⟨h5, by omega⟩
    · exact .inr ⟨by omega, h4⟩

theorem GH.snd {L L1 : Heap} {φL : Phi} {AL : Avoid} {G : Heap} {φ φ1 : Phi} {AH : Avoid} {H H1 H2 : Heap} (h : GH G φ H H2) (m : MG w L φL AL G φ AH L1 φ1 H.bs.length H1.bs.length) : GH G φ1 H1 H2 := by
  refine ⟨h.ext, fun id h1 h2 => ?_⟩
  cases hp : φ1 id with
  | none => rfl
  | some loc =>
    have hle := m.le
    rcases m.new id loc hp with h3 | ⟨_, h3⟩
    · rw [h.none id (by omega) h2] at h3; simp at h3
    · omega

/-- A block that the second heap has, at a place in memory that was the first one's. -/
theorem newAtG {L L1 : Heap} {φL : Phi} {AL : Avoid} {G : Heap} {φ φ1 : Phi} {AH : Avoid} {lo hi : Nat} (m : MG w L φL AL G φ AH L1 φ1 lo hi) {ver sz : Nat} {fx : Bool} {el : List AV} {loc : Loc} (hg : G.get hi = some ⟨ver, sz, fx, el⟩) (hver : ver < G.st) (hnone : φ hi = none)
    (hsd : ∀ (i : Nat) (x : AV), el[i]? = some x → x.cells.length = sz) (hv : loc = .virt → el = [])
    (hat : ∀ c b0, loc = .at_ c b0 → Ow φL c ∧ ¬ Ow (restr φL L1) c ∧ ¬ Ow φ1 c ∧ AH c ∧ ∃ arr T fr, w.heap[c]? = some (.cells arr T fr) ∧ (∀ j, j < arr.size → ¬ (fr.1 ≤ j ∧ j < fr.2)) ∧ b0 + el.length * sz ≤ arr.size ∧
      ∀ (i : Nat) (x : AV) (j : Nat) (y : AV) (v : Value), el[i]? = some x → x.cells[j]? = some y → arr[b0 + i * sz + j]? = some v → R w G φ1 AH y v ∧ v.oneCell' = true) :
    MG w L φL AL G φ AH L1 (fun i => if i = hi then some loc else φ1 i) lo (hi + 1) := by
  have hsh := m.duo.sh
  have hle := m.le
  have hnew : φ1 hi = none := by
    cases hp : φ1 hi with
    | none => rfl
    | some l =>
      rcases m.new hi l hp with h | ⟨_, h⟩
      · rw [hnone] at h; simp at h
      · omega
  have hevo : Evo w G φ1 AH w G (fun i => if i = hi then some loc else φ1 i) AH := by
    refine ⟨fun c a t fr hc hn => ⟨⟨fr, hc⟩, hn⟩, Nat.le_refl _, fun id b hb hlt => ⟨b, hb, rfl, rfl, rfl, rfl, fun l hl => ?_⟩, fun _ _ => rfl⟩
    rw [if_neg (by rintro rfl; rw [hnew] at hl; simp at hl)]; exact hl
  have hOw : ∀ c, Ow (fun i => if i = hi then some loc else φ1 i) c → Ow φ1 c ∨ ∃ b0, loc = .at_ c b0 := by
    rintro c ⟨i, b, h⟩
    try simp only at h
    split at h
    · simp only [Option.some.injEq] at h; exact .inr ⟨b, h⟩
    · exact .inl ⟨i, b, h⟩
  refine ⟨m.less, ⟨m.duo.sl, ⟨fun i i' c b b' h1 h2 => ?_, fun c hc => ?_, hsh.bnd, fun i l hl => ?_⟩, fun c hc ho => ?_, m.duo.cov⟩, fun c hc => ?_, fun c hc => ?_, fun id l hl => ?_, fun id l hl => ?_, by omega⟩
  · try simp only at h1 h2
    split at h1
    · rename_i hi
      split at h2
      · rename_i hi'; omega
      · simp only [Option.some.injEq] at h1
        exact absurd ⟨i', b', h2⟩ (hat c b h1).2.2.1
    · split at h2
      · simp only [Option.some.injEq] at h2
        exact absurd ⟨i, b, h1⟩ (hat c b' h2).2.2.1
      · exact hsh.inj _ _ _ _ _ h1 h2
  · rcases hOw c hc with h | ⟨b0, h⟩
    · exact hsh.own c h
    · exact (hat c b0 h).2.2.2.1
  · try simp only at hl
    split at hl
    · rename_i hi; subst hi
      simp only [Option.some.injEq] at hl; subst hl
      refine ⟨_, hg, hver, hsd, hv, fun c b0 he => ?_⟩
      obtain ⟨_, _, _, _, arr, T, fr, k1, k2, k3, k4⟩ := hat c b0 he
      exact ⟨arr, T, fr, k1, k2, k3, fun j x q y v hx' hy hvv => ⟨(k4 j x q y v hx' hy hvv).1.mono hevo, (k4 j x q y v hx' hy hvv).2⟩⟩
    · obtain ⟨bb, hb, hok⟩ := hsh.blk i l hl
      refine ⟨bb, hb, hok.ver, hok.sized, hok.virt, fun c b0 he => ?_⟩
      obtain ⟨arr, T, fr, k1, k2, k3, k4⟩ := hok.here c b0 he
      exact ⟨arr, T, fr, k1, k2, k3, fun j x q y v hx' hy hvv => ⟨(k4 j x q y v hx' hy hvv).1.mono hevo, (k4 j x q y v hx' hy hvv).2⟩⟩
  · rcases hOw c ho with h | ⟨b0, h⟩
    · exact m.duo.dis c hc h
    · exact (hat c b0 h).2.1 hc
  · rcases hOw c hc with h | ⟨b0, h⟩
    · exact m.oh c h
    · exact .inr ⟨(hat c b0 h).1, (hat c b0 h).2.1⟩
  · obtain ⟨i, b, h⟩ := m.oh' c hc
    exact ⟨i, b, by show (if i = hi then some loc else φ1 i) = _; rw [if_neg (by rintro rfl; rw [hnew] at h; simp at h)]; exact h⟩
  · have := m.hphi id l hl
    rw [if_neg (by rintro rfl; rw [hnew] at this; simp at this)]; exact this
  · try simp only at hl
    split at hl
    · rename_i hi; subst hi; exact .inr ⟨hle, Nat.lt_succ_self _⟩
    · rcases m.new id l hl with h | ⟨h1, h2⟩
      · exact .inl h
      · exact .inr ⟨h1, by omega⟩
set_option maxRecDepth 4000

/-- A list of elements handed over, each by what hands one over. -/
theorem moveXG {es : List Sh} (hE : ∀ (x : AV) (vs : List Value) (L : Heap) (φL : Phi) (AL : Avoid) (H G : Heap) (φ : Phi) (AH : Avoid) (y : AV) (L1 : Heap) (a : AV) (H1 : Heap), Duo w L φL AL G φ AH → GH G φ H H1 → x.cells.length = vs.length →
      (∀ (j : Nat) (c : AV) (u : Value), x.cells[j]? = some c → vs[j]? = some u → R w L φL AL c u) → takeE es x L = some (y, L1) → thawV y H = (a, H1) → Kfz AL AH y →
      ∃ φ1, MG w L φL AL G φ AH L1 φ1 H.bs.length H1.bs.length ∧ a.cells.length = x.cells.length ∧ ∀ (j : Nat) (c : AV) (u : Value), a.cells[j]? = some c → vs[j]? = some u → R w G φ1 AH c u) :
    ∀ (xs : List AV) (g : Nat → Nat → Value) (L : Heap) (φL : Phi) (AL : Avoid) (H G : Heap) (φ : Phi) (AH : Avoid) (ys : List AV) (L1 : Heap) (as : List AV) (H1 : Heap), Duo w L φL AL G φ AH → GH G φ H H1 →
      (∀ (i : Nat) (x : AV) (j : Nat) (c : AV), xs[i]? = some x → x.cells[j]? = some c → R w L φL AL c (g i j)) → mapH (takeE es) xs L = some (ys, L1) → thawL ys H = (as, H1) → KfzL AL AH ys →
      ∃ φ1, MG w L φL AL G φ AH L1 φ1 H.bs.length H1.bs.length ∧ as.length = xs.length ∧ (∀ (i : Nat) (x a : AV), xs[i]? = some x → as[i]? = some a → a.cells.length = x.cells.length) ∧
        ∀ (i : Nat) (a : AV) (j : Nat) (c : AV), as[i]? = some a → a.cells[j]? = some c → R w G φ1 AH c (g i j)
  | [], g, L, φL, AL, H, G, φ, AH, ys, L1, as, H1, hd, hh, _, ht, hw, _ => by
    simp only [mapH, Option.some.injEq, Prod.mk.injEq] at ht
    obtain ⟨rfl, rfl⟩ := ht
    simp only [thawL, Prod.mk.injEq] at hw
    obtain ⟨rfl, rfl⟩ := hw
    exact ⟨φ, .refl hd _, rfl, by simp, by simp⟩
  | x :: xs, g, L, φL, AL, H, G, φ, AH, ys, L1, as, H1, hd, hh, hr, ht, hw, hk => by
    simp only [mapH] at ht
    split at ht
    · rename_i y L' h1
      split at ht
      · rename_i ys' L'' h2
        simp only [Option.some.injEq, Prod.mk.injEq] at ht
        obtain ⟨rfl, rfl⟩ := ht
        obtain ⟨k1, k2⟩ := hk.cons
        simp only [thawL, Prod.mk.injEq] at hw
        obtain ⟨rfl, rfl⟩ := hw
        let vs : List Value := (List.range x.cells.length).map (g 0)
        obtain ⟨φ1, m1, l1, r1⟩ := hE x vs L φL AL H G φ AH y L' _ _ hd (hh.fst (thawL_grow _ _)) (by simp [vs]) (fun j c u hj hu => by
          have hjl : j < x.cells.length := (List.getElem?_eq_some_iff.1 hj).1
          have : vs[j]? = some (g 0 j) := by simp [vs, hjl]
          rw [this] at hu
          simp only [Option.some.injEq] at hu; subst hu; exact hr 0 x j c rfl hj) h1 rfl k1
        obtain ⟨φ2, m2, l2, s2, r2⟩ := moveXG hE xs (fun i j => g (i + 1) j) L' (restr φL L') AL _ G φ1 AH ys' L'' _ _ m1.duo (hh.snd m1) (fun i x' j c hi hj => (hr (i + 1) x' j c hi hj).mono (lessEvo m1.less)) h2 rfl k2
        refine ⟨φ2, m1.trans m2, by simp [l2], fun i x' a hx ha => ?_, fun i a j c ha hc => ?_⟩
        · cases i with
          | zero => simp at hx ha; subst hx; subst ha; exact l1
          | succ i => exact s2 i x' a hx ha
        · cases i with
          | zero =>
            simp only [List.getElem?_cons_zero, Option.some.injEq] at ha; subst ha
            have hj : j < x.cells.length := by rw [← l1]; exact (List.getElem?_eq_some_iff.1 hc).1
            exact (r1 j c (g 0 j) hc (by simp [vs, hj])).mono m2.eh
          | succ i => exact r2 i a j c ha hc
      · simp at ht
    · simp at ht

/-- What a slice or a variable in the heap is, as it is handed over. -/
theorem blkMoveG {L : Heap} {φL : Phi} {AL : Avoid} {G : Heap} {φ : Phi} {AH : Avoid} (hd : Duo w L φL AL G φ AH) {id ver : Nat} {b : Blk} (hb : L.blk id ver = some b) {off n : Nat} (hle : off + n ≤ b.el.length) {sz : Nat} (hs : b.sz = sz) {loc : Loc} (hφ : φL id = some loc)
    {L1 : Heap} {as : List AV} {lo hi : Nat} {g : Nat → Nat → Value} {φ1 : Phi} (hg : ∀ c b0 arr T fr, loc = .at_ c b0 → w.heap[c]? = some (.cells arr T fr) → ∀ (i j : Nat) (v : Value), i < n → j < sz → arr[b0 + (off + i) * sz + j]? = some v → g i j = v)
    (m : MG w (L.del id) (restr φL (L.del id)) AL G φ AH L1 φ1 lo hi) (hl : as.length = n) (hsd : ∀ (i : Nat) (a : AV), as[i]? = some a → a.cells.length = sz)
    (hr : ∀ (i : Nat) (a : AV) (j : Nat) (c : AV), as[i]? = some a → a.cells[j]? = some c → R w G φ1 AH c (g i j)) {ver' : Nat} (fx : Bool) (hgh : G.get hi = some ⟨ver', sz, fx, as⟩) (hver : ver' < G.st) (hnone : φ hi = none) (loc' : Loc) (hloc : loc' = .virt ∧ n = 0 ∨ ∃ c b0, loc = .at_ c b0 ∧ loc' = .at_ c (b0 + off * sz)) :
    MG w L φL AL G φ AH L1 (fun i => if i = hi then some loc' else φ1 i) lo (hi + 1) := by
  have hgt := (Heap.blk_get hb).1
  have hless := (Less.del L id).trans m.less
  have hrr : restr (restr φL (L.del id)) L1 = restr φL L1 := restr_restr m.less
  have m' : MG w L φL AL G φ AH L1 φ1 lo hi := by
    refine ⟨hless, by have := m.duo; rwa [hrr] at this, fun c hc => ?_, m.oh', m.hphi, m.new, m.le⟩
    rcases m.oh c hc with h | ⟨h1, h2⟩
    · exact .inl h
    · rw [hrr] at h2; exact .inr ⟨restr_ow h1, h2⟩
  refine newAtG m' hgh hver hnone hsd (fun hv => ?_) (fun c b1 he => ?_)
  · rcases hloc with ⟨_, h0⟩ | ⟨c, b0, _, h2⟩
    · exact List.eq_nil_of_length_eq_zero (by omega)
    · rw [h2] at hv; simp at hv
  · rcases hloc with ⟨h1, _⟩ | ⟨c', b0, h1, h2⟩
    · rw [h1] at he; simp at he
    · rw [h2] at he
      simp only [Loc.at_.injEq] at he
      obtain ⟨rfl, rfl⟩ := he
      subst h1
      have hoc : Ow φL c' := ⟨id, b0, hφ⟩
      have hnot : ¬ Ow (restr φL L1) c' := by
        rintro ⟨i, bb, hi⟩
        obtain ⟨hi1, bk, hbk⟩ := restr_some hi
        have := hd.sl.inj _ _ _ _ _ hi1 hφ
        subst this
        have := m.less.get _ _ hbk
        rw [Heap.get_del, if_pos rfl] at this
        simp at this
      refine ⟨hoc, hnot, fun ho => ?_, hd.cov _ hoc, ?_⟩
      · rcases m.oh c' ho with h | ⟨⟨i, bb, hi⟩, _⟩
        · exact hd.dis c' hoc h
        · obtain ⟨hi1, bk, hbk⟩ := restr_some hi
          have := hd.sl.inj _ _ _ _ _ hi1 hφ
          subst this
          rw [Heap.get_del, if_pos rfl] at hbk
          simp at hbk
      · obtain ⟨bk, hbk, hok⟩ := hd.sl.blk id _ hφ
        rw [hgt] at hbk
        simp only [Option.some.injEq] at hbk; subst hbk
        obtain ⟨arr, T, fr, k1, k2, k3, k4⟩ := hok.here c' b0 rfl
        have hmul : off * sz + n * sz ≤ b.el.length * sz := by rw [← Nat.add_mul]; exact Nat.mul_le_mul_right _ hle
        refine ⟨arr, T, fr, k1, k2, by rw [hl]; rw [hs] at k3; omega, fun i a j c v ha hc hv => ?_⟩
        have hi : i < n := by rw [← hl]; exact (List.getElem?_eq_some_iff.1 ha).1
        have hj : j < sz := by rw [← hsd i a ha]; exact (List.getElem?_eq_some_iff.1 hc).1
        have e : b0 + off * sz + i * sz + j = b0 + (off + i) * sz + j := by rw [Nat.add_mul]; omega
        rw [e] at hv
        have hgv := hg c' b0 arr T fr rfl k1 i j v hi hj hv
        refine ⟨by rw [← hgv]; exact hr i a j c ha hc, ?_⟩
        have hel : off + i < b.el.length := by omega
        have hx := List.getElem?_eq_getElem hel
        have hxl := hok.sized _ _ hx
        exact (k4 (off + i) _ j _ v hx (List.getElem?_eq_getElem (by omega)) (by rw [hs]; exact hv)).2
mutual
theorem moveTG (sh : Sh) (x : AV) (v : Value) (L : Heap) (φL : Phi) (AL : Avoid) (H G : Heap) (φ : Phi) (AH : Avoid) (y : AV) (L1 : Heap) (a : AV) (H1 : Heap) (hd : Duo w L φL AL G φ AH) (hh : GH G φ H H1) (hx : R w L φL AL x v)
    (ht : takeT sh x L = some (y, L1)) (hw : thawV y H = (a, H1)) (hk : Kfz AL AH y) : ∃ φ1, MG w L φL AL G φ AH L1 φ1 H.bs.length H1.bs.length ∧ R w G φ1 AH a v ∧ (x ≠ .undef → a.cells = [a]) ∧ (x = .undef → a = .undef) := by
  cases sh with
  | sc =>
    simp only [takeT] at ht
    split at ht
    · rename_i hp
      simp only [Option.some.injEq, Prod.mk.injEq] at ht
      obtain ⟨rfl, rfl⟩ := ht
      rw [thaw_plain hp] at hw
      simp only [Prod.mk.injEq] at hw
      obtain ⟨rfl, rfl⟩ := hw
      exact ⟨φ, .refl hd _, plain_R hp hx, fun hu => cells_one hu (by rintro cs rfl; simp [plainA] at hp), fun h => h⟩
    · simp at ht
  | sl es =>
    have hnil : ∀ {v0 : Option Addr}, v = .slice v0 0 0 → thawV (.own es.length []) H = (a, H1) → L1 = L → ∃ φ1, MG w L φL AL G φ AH L1 φ1 H.bs.length H1.bs.length ∧ R w G φ1 AH a v ∧ a.cells = [a] := by
      intro v0 hv hw hL
      subst hL
      simp only [thawV, thawL, Prod.mk.injEq] at hw
      obtain ⟨rfl, rfl⟩ := hw
      have hgh := hh.ext.1 _ _ (Heap.get_new H es.length false [])
      have hver : H.st < G.st := Nat.lt_of_lt_of_le (Nat.lt_succ_self _) hh.ext.2
      have m := newAtG (MG.refl hd H.bs.length) hgh hver (hh.none _ (Nat.le_refl _) (by rw [new_len]; exact Nat.lt_succ_self _)) (loc := .virt) (by simp) (fun _ => rfl) (by simp)
      rw [← new_len H es.length false []] at m
      refine ⟨_, m, ?_, rfl⟩
      refine .ref _ _ _ _ _ hver ⟨_, _, _, hv⟩ fun b hb => ?_
      have := blk_same hgh hb
      subst this
      exact ⟨.virt, v0, 0, by simp, hv, by simp, Nat.le_refl _, by simp, rfl, fun _ => rfl⟩
    cases x with
    | nil =>
      simp only [takeT, Option.some.injEq, Prod.mk.injEq] at ht
      obtain ⟨rfl, rfl⟩ := ht
      obtain ⟨φ1, h1, h2, h3⟩ := hnil hx.nil_inv hw rfl
      exact ⟨φ1, h1, h2, fun _ => h3, fun h => by simp at h⟩
    | e0 =>
      simp only [takeT, Option.some.injEq, Prod.mk.injEq] at ht
      obtain ⟨rfl, rfl⟩ := ht
      obtain ⟨a0, ha0⟩ := hx.e0_inv
      obtain ⟨φ1, h1, h2, h3⟩ := hnil ha0 hw rfl
      exact ⟨φ1, h1, h2, fun _ => h3, fun h => by simp at h⟩
    | fz xs =>
      simp only [takeT, Option.some.injEq, Prod.mk.injEq] at ht
      obtain ⟨rfl, rfl⟩ := ht
      simp only [thawV, Prod.mk.injEq] at hw
      obtain ⟨rfl, rfl⟩ := hw
      rcases hk with hk | hk
      · exact ⟨φ, .refl hd _, .fr _ _ (hx.fz_inv.shrink hk), fun _ => rfl, fun h => by simp at h⟩
      · simp [noFz] at hk
    | ref id ver off len =>
      simp only [takeT] at ht
      split at ht
      · rename_i b hb
        split at ht
        · rename_i hc
          obtain ⟨c1, c2, c3⟩ := hc
          split at ht
          · rename_i ys L' hm
            simp only [Option.some.injEq, Prod.mk.injEq] at ht
            obtain ⟨rfl, rfl⟩ := ht
            simp only [thawV, Prod.mk.injEq] at hw
            obtain ⟨rfl, rfl⟩ := hw
            have hg := (Heap.blk_get hb).1
            obtain ⟨hver, _, hr⟩ := hx.ref_inv
            obtain ⟨loc, a0, cap, q1, rfl, q3, q4, q5, q6⟩ := (hr b hb).out
            obtain ⟨bk, hbk, hok⟩ := hd.sl.blk id _ q1
            rw [hg] at hbk
            simp only [Option.some.injEq] at hbk; subst hbk
            have hk' : KfzL AL AH ys := by
              rcases hk with h | h
              · exact .inl h
              · exact .inr (by simpa [noFz] using h)
            have hlss := Less.del L id
            have hd' : Duo w (L.del id) (restr φL (L.del id)) AL G φ AH := ⟨lessSt hd.sl hlss, hd.sh, fun c hc => hd.dis c (restr_ow hc), fun c hc => hd.cov c (restr_ow hc)⟩
            have hsub : (subL b.el off len).length = len := by simp [subL]; omega
            have hsubg : ∀ (i : Nat) (x : AV), (subL b.el off len)[i]? = some x → b.el[off + i]? = some x := by
              intro i x hi
              simp only [subL, List.getElem?_take, List.getElem?_drop] at hi
              split at hi
              · exact hi
              · simp at hi
            -- what lies in memory
            let g : Nat → Nat → Value := match loc with
              | .virt => fun _ _ => undef
              | .at_ c b0 => fun i j => match w.heap[c]? with
                | some (.cells arr _ _) => arr.getD (b0 + (off + i) * es.length + j) undef
                | _ => undef
            have hrel : ∀ (i : Nat) (x : AV) (j : Nat) (c : AV), (subL b.el off len)[i]? = some x → x.cells[j]? = some c → R w (L.del id) (restr φL (L.del id)) AL c (g i j) := by
              intro i x j c hi hj
              have hx' := hsubg i x hi
              have hil : i < len := by rw [← hsub]; exact (List.getElem?_eq_some_iff.1 hi).1
              cases loc with
              | virt => have := hok.virt rfl; rw [this] at hx'; simp at hx'
              | at_ c0 b0 =>
                obtain ⟨arr, T, fr, k1, k2, k3, k4⟩ := hok.here c0 b0 rfl
                have hjl : j < b.sz := by rw [← hok.sized _ _ hx']; exact (List.getElem?_eq_some_iff.1 hj).1
                have hle := mul_lt_le (n := b.sz) (show off + i < b.el.length by omega)
                have hlt : b0 + (off + i) * b.sz + j < arr.size := by omega
                have : g i j = arr[b0 + (off + i) * b.sz + j] := by
                  simp only [g, k1, ← c1, Array.getD_eq_getD_getElem?, Array.getElem?_eq_getElem hlt, Option.getD_some]
                rw [this]
                exact ((k4 _ _ _ _ _ hx' hj (Array.getElem?_eq_getElem hlt)).1).mono (lessEvo hlss)
            obtain ⟨φ1, m, l1, s1, r1⟩ := moveXG (w := w) (es := es) (fun x vs L φL AL H G φ AH y L1 a H1 => moveEG es x vs L φL AL H G φ AH y L1 a H1) _ g _ _ _ _ _ _ _ _ _ _ _ hd' (hh.fst (.new _ _ _ _)) hrel hm rfl hk'
            rw [hsub] at l1
            have hlen2 : ∀ (i : Nat) (a : AV), (thawL ys H).1[i]? = some a → a.cells.length = b.sz := by
              intro i a ha
              have hil : i < (subL b.el off len).length := by rw [hsub, ← l1]; exact (List.getElem?_eq_some_iff.1 ha).1
              have hxi := List.getElem?_eq_getElem hil
              rw [s1 i _ a hxi ha]
              exact hok.sized _ _ (hsubg i _ hxi)
            have hgg : ∀ c b0 arr T fr, loc = .at_ c b0 → w.heap[c]? = some (.cells arr T fr) → ∀ (i j : Nat) (v : Value), i < len → j < b.sz → arr[b0 + (off + i) * b.sz + j]? = some v → g i j = v := by
              intro c b0 arr T fr hl hh i j v _ _ hv
              subst hl
              simp only [g, hh, ← c1, Array.getD_eq_getD_getElem?, hv, Option.getD_some]
            let loc' : Loc := match loc with
              | .virt => .virt
              | .at_ c b0 => if cap = 0 then .virt else .at_ c (b0 + off * b.sz)
            have hloc : loc' = .virt ∧ len = 0 ∨ ∃ c b0, loc = .at_ c b0 ∧ loc' = .at_ c (b0 + off * b.sz) := by
              cases loc with
              | virt => left; refine ⟨rfl, ?_⟩; have := hok.virt rfl; rw [this] at q3; simp at q3; omega
              | at_ c b0 =>
                by_cases hc0 : cap = 0
                · left; exact ⟨by simp [loc', hc0], by omega⟩
                · right; exact ⟨c, b0, rfl, by simp [loc', hc0]⟩
            have hgh := hh.ext.1 _ _ (Heap.get_new (thawL ys H).2 es.length false (thawL ys H).1)
            have hver : (thawL ys H).2.st < G.st := Nat.lt_of_lt_of_le (Nat.lt_succ_self _) hh.ext.2
            have M := blkMoveG hd hb c2 rfl q1 hgg m l1 hlen2 r1 false (by rw [c1]; exact hgh) hver (hh.none _ (thawL_grow ys H).2 (by rw [new_len]; exact Nat.lt_succ_self _)) loc' hloc
            rw [← new_len (thawL ys H).2 es.length false (thawL ys H).1] at M
            refine ⟨_, M, ?_, fun _ => rfl, fun h => by simp at h⟩
            refine .ref _ _ _ _ _ hver ⟨_, _, _, rfl⟩ fun b' hb' => ?_
            have := blk_same hgh hb'
            subst this
            refine ⟨loc', a0, cap, by simp, by rw [l1], by simp, by omega, by simp only; omega, ?_⟩
            cases loc with
            | virt =>
              simp only at q6
              have hl0 : len = 0 := by have := hok.virt rfl; rw [this] at q3; simp at q3; omega
              refine ⟨List.eq_nil_of_length_eq_zero (by rw [l1, hl0]), fun _ => ?_⟩
              rcases c3 with c3 | c3
              · exact q6.2 c3
              · omega
            | at_ c b0 =>
              simp only at q6
              by_cases hc0 : cap = 0
              · simp only [loc', hc0, if_true]
                exact ⟨List.eq_nil_of_length_eq_zero (by omega), fun _ => by first | trivial | omega | rfl⟩
              · simp only [loc', hc0, if_false]
                rcases q6 with q6 | ⟨h1, h2⟩
                · exact absurd q6 hc0
                · refine Or.inr ⟨by rw [h1]; simp, ?_⟩
                  rw [c1] at h2 ⊢
                  have : (off + cap) * es.length = off * es.length + cap * es.length := Nat.add_mul _ _ _
                  simp only [Nat.zero_add]
                  omega
          · simp at ht
        · simp at ht
      · simp at ht
    | _ => simp [takeT] at ht
  | pt es =>
    cases x with
    | fe z o =>
      simp only [takeT, Option.some.injEq, Prod.mk.injEq] at ht
      obtain ⟨rfl, rfl⟩ := ht
      simp only [thawV, Prod.mk.injEq] at hw
      obtain ⟨rfl, rfl⟩ := hw
      rcases hk with hk | hk
      · exact ⟨φ, .refl hd _, .fr _ _ (hx.fe_inv.shrink hk), fun _ => rfl, fun h => by simp at h⟩
      · simp [noFz] at hk
    | ptr id ver idx off =>
      rcases idx with _ | idx
      rotate_left
      · simp [takeT] at ht
      rcases off with _ | off
      rotate_left
      · simp [takeT] at ht
      simp only [takeT] at ht
      split at ht
      · rename_i bver sz bfix z hb
        split at ht
        · rename_i y' L' hm
          simp only [Option.some.injEq, Prod.mk.injEq] at ht
          obtain ⟨rfl, rfl⟩ := ht
          simp only [thawV, Prod.mk.injEq] at hw
          obtain ⟨rfl, rfl⟩ := hw
          have hg := (Heap.blk_get hb).1
          obtain ⟨hver, _, hr⟩ := hx.ptr_inv
          obtain ⟨c, b0, q1, rfl⟩ := hr _ hb
          obtain ⟨bk, hbk, hok⟩ := hd.sl.blk id _ q1
          rw [hg] at hbk
          simp only [Option.some.injEq] at hbk; subst hbk
          obtain ⟨arr, T, fr, k1, k2, k3, k4⟩ := hok.here c b0 rfl
          have hk' : Kfz AL AH y' := by
            rcases hk with h | h
            · exact .inl h
            · exact .inr (by simpa [noFz] using h)
          have hlss := Less.del L id
          have hd' : Duo w (L.del id) (restr φL (L.del id)) AL G φ AH := ⟨lessSt hd.sl hlss, hd.sh, fun c hc => hd.dis c (restr_ow hc), fun c hc => hd.cov c (restr_ow hc)⟩
          have hzl : z.cells.length = sz := hok.sized 0 z rfl
          simp only [List.length_singleton, Nat.one_mul] at k3
          let vs : List Value := (arr.extract b0 (b0 + sz)).toList
          have hvs : vs.length = sz := by simp [vs]; omega
          have hvg : ∀ j u, vs[j]? = some u → arr[b0 + j]? = some u := by
            intro j u hu
            simp only [vs, Array.getElem?_toList, Array.getElem?_extract] at hu
            split at hu
            · exact hu
            · simp at hu
          obtain ⟨φ1, m, l1, r1⟩ := moveEG es z vs _ _ _ _ _ _ _ _ _ _ _ hd' (hh.fst (.new _ _ _ _)) (by rw [hvs, hzl]) (fun j c' u hj hu => ((k4 0 z j c' u rfl hj (by simpa using hvg j u hu)).1).mono (lessEvo hlss)) hm rfl hk'
          have hgh := hh.ext.1 _ _ (Heap.get_new (thawV y' H).2 sz false [(thawV y' H).1])
          have hver : (thawV y' H).2.st < G.st := Nat.lt_of_lt_of_le (Nat.lt_succ_self _) hh.ext.2
          have M := blkMoveG (as := [(thawV y' H).1]) (n := 1) (off := 0) (sz := sz) (loc' := .at_ c b0) (g := fun i j => vs.getD j undef) hd hb (by simp) rfl q1 (fun c' b0' arr' T' fr' hl hh i j v hi hj hv => by
              simp only [Loc.at_.injEq] at hl
              obtain ⟨rfl, rfl⟩ := hl
              rw [k1] at hh
              simp only [Option.some.injEq, Obj.cells.injEq] at hh
              obtain ⟨rfl, _, _⟩ := hh
              have hi0 : i = 0 := by omega
              subst hi0
              simp only [Nat.zero_mul, Nat.add_zero] at hv
              have : vs[j]? = some v := by
                simp only [vs, Array.getElem?_toList, Array.getElem?_extract]
                rw [if_pos (by omega)]; exact hv
              simp [List.getD, this]) m rfl (fun i a ha => by
              cases i with
              | zero => simp at ha; subst ha; rw [l1, hzl]
              | succ i => simp at ha) (fun i a j c' ha hc => by
              cases i with
              | zero =>
                simp at ha; subst ha
                have hj : j < vs.length := by rw [hvs, ← hzl, ← l1]; exact (List.getElem?_eq_some_iff.1 hc).1
                have := r1 j c' vs[j] hc (List.getElem?_eq_getElem hj)
                simpa [List.getD, hj] using this
              | succ i => simp at ha) false hgh hver (hh.none _ (thawV_grow y' H).2 (by rw [new_len]; exact Nat.lt_succ_self _)) (.inr ⟨c, b0, rfl, by simp⟩)
          rw [← new_len (thawV y' H).2 sz false [(thawV y' H).1]] at M
          refine ⟨_, M, ?_, fun _ => rfl, fun h => by simp at h⟩
          refine .ptr _ _ _ _ _ hver ⟨_, rfl⟩ fun b' hb' => ⟨c, b0, by simp, ?_⟩
          simp
        · simp at ht
      · simp at ht
    | _ => simp [takeT] at ht
  termination_by (SizeOf.sizeOf sh, 0)
theorem moveEG (es : List Sh) (x : AV) (vs : List Value) (L : Heap) (φL : Phi) (AL : Avoid) (H G : Heap) (φ : Phi) (AH : Avoid) (y : AV) (L1 : Heap) (a : AV) (H1 : Heap) (hd : Duo w L φL AL G φ AH) (hh : GH G φ H H1) (hl : x.cells.length = vs.length)
    (hx : ∀ (j : Nat) (c : AV) (u : Value), x.cells[j]? = some c → vs[j]? = some u → R w L φL AL c u) (ht : takeE es x L = some (y, L1)) (hw : thawV y H = (a, H1)) (hk : Kfz AL AH y) :
    ∃ φ1, MG w L φL AL G φ AH L1 φ1 H.bs.length H1.bs.length ∧ a.cells.length = x.cells.length ∧ ∀ (j : Nat) (c : AV) (u : Value), a.cells[j]? = some c → vs[j]? = some u → R w G φ1 AH c u := by
  by_cases hag : ∃ cs, x = .agg cs
  · obtain ⟨cs, rfl⟩ := hag
    have ht' : ∃ cs', takeC es cs L = some (cs', L1) ∧ y = .agg cs' := by
      match es, ht with
      | [], ht =>
        simp only [takeE] at ht
        split at ht
        · rename_i cs' L' hc
          simp only [Option.some.injEq, Prod.mk.injEq] at ht
          obtain ⟨rfl, rfl⟩ := ht
          exact ⟨cs', hc, rfl⟩
        · simp at ht
      | [e], ht =>
        simp only [takeE] at ht
        split at ht
        · rename_i cs' L' hc
          simp only [Option.some.injEq, Prod.mk.injEq] at ht
          obtain ⟨rfl, rfl⟩ := ht
          exact ⟨cs', hc, rfl⟩
        · simp at ht
      | e :: e' :: es, ht =>
        simp only [takeE] at ht
        split at ht
        · rename_i cs' L' hc
          simp only [Option.some.injEq, Prod.mk.injEq] at ht
          obtain ⟨rfl, rfl⟩ := ht
          exact ⟨cs', hc, rfl⟩
        · simp at ht
    obtain ⟨cs', hc, rfl⟩ := ht'
    simp only [thawV, Prod.mk.injEq] at hw
    obtain ⟨rfl, rfl⟩ := hw
    have hk' : KfzL AL AH cs' := by
      rcases hk with h | h
      · exact .inl h
      · exact .inr (by simpa [noFz] using h)
    exact moveCG es cs vs L φL AL H G φ AH cs' L1 _ _ hd hh hl hx hc rfl hk'
  · have hnag : ∀ cs, x ≠ .agg cs := fun cs h => hag ⟨cs, h⟩
    match es, ht with
    | [e], ht =>
      have ht' : takeT e x L = some (y, L1) := by
        cases x <;> first | (simpa only [takeE] using ht) | exact absurd rfl (hnag _)
      by_cases hu : x = .undef
      · subst hu
        have hv0 : vs = [] := List.eq_nil_of_length_eq_zero (by simpa [AV.cells] using hl.symm)
        subst hv0
        obtain ⟨φ1, m, _, _, h4⟩ := moveTG e .undef undef L φL AL H G φ AH y L1 a H1 hd hh (.fr _ _ (.undef _)) ht' hw hk
        exact ⟨φ1, m, by rw [h4 rfl], by simp⟩
      · have hc1 := cells_one hu hnag
        rw [hc1] at hl
        obtain ⟨v, rfl⟩ : ∃ v, vs = [v] := by
          match vs, hl with
          | [v], _ => exact ⟨v, rfl⟩
        obtain ⟨φ1, m, h2, h3, _⟩ := moveTG e x v L φL AL H G φ AH y L1 a H1 hd hh (hx 0 x v (by rw [hc1]; rfl) rfl) ht' hw hk
        refine ⟨φ1, m, by rw [h3 hu, hc1]; rfl, fun j c u hj hu' => ?_⟩
        rw [h3 hu] at hj
        cases j with
        | zero => simp at hj hu'; subst hj; subst hu'; exact h2
        | succ j => simp at hj
    | [], ht => cases x <;> first | (simp [takeE] at ht; done) | exact absurd rfl (hnag _)
    | _ :: _ :: _, ht => cases x <;> first | (simp [takeE] at ht; done) | exact absurd rfl (hnag _)
  termination_by (SizeOf.sizeOf es, 1)
theorem moveCG (es : List Sh) (cs : List AV) (vs : List Value) (L : Heap) (φL : Phi) (AL : Avoid) (H G : Heap) (φ : Phi) (AH : Avoid) (ys : List AV) (L1 : Heap) (as : List AV) (H1 : Heap) (hd : Duo w L φL AL G φ AH) (hh : GH G φ H H1) (hl : cs.length = vs.length)
    (hx : ∀ (j : Nat) (c : AV) (u : Value), cs[j]? = some c → vs[j]? = some u → R w L φL AL c u) (ht : takeC es cs L = some (ys, L1)) (hw : thawL ys H = (as, H1)) (hk : KfzL AL AH ys) :
    ∃ φ1, MG w L φL AL G φ AH L1 φ1 H.bs.length H1.bs.length ∧ as.length = cs.length ∧ ∀ (j : Nat) (c : AV) (u : Value), as[j]? = some c → vs[j]? = some u → R w G φ1 AH c u := by
  match es, cs, ht with
  | [], [], ht =>
    simp only [takeC, Option.some.injEq, Prod.mk.injEq] at ht
    obtain ⟨rfl, rfl⟩ := ht
    simp only [thawL, Prod.mk.injEq] at hw
    obtain ⟨rfl, rfl⟩ := hw
    exact ⟨φ, .refl hd _, rfl, by simp⟩
  | e :: es, x :: cs, ht =>
    simp only [takeC] at ht
    split at ht
    · rename_i y L' h1
      split at ht
      · rename_i ys' L'' h2
        simp only [Option.some.injEq, Prod.mk.injEq] at ht
        obtain ⟨rfl, rfl⟩ := ht
        simp only [thawL, Prod.mk.injEq] at hw
        obtain ⟨rfl, rfl⟩ := hw
        obtain ⟨k1, k2⟩ := hk.cons
        match vs, hl with
        | v :: vs, hl =>
          obtain ⟨φ1, m1, r1, _, _⟩ := moveTG e x v L φL AL H G φ AH y L' _ _ hd (hh.fst (thawL_grow _ _)) (hx 0 x v rfl rfl) h1 rfl k1
          obtain ⟨φ2, m2, l2, r2⟩ := moveCG es cs vs L' (restr φL L') AL _ G φ1 AH ys' L'' _ _ m1.duo (hh.snd m1) (by simpa using hl) (fun j c u hj hu => (hx (j + 1) c u hj hu).mono (lessEvo m1.less)) h2 rfl k2
          refine ⟨φ2, m1.trans m2, by simp [l2], fun j c u hj hu => ?_⟩
          cases j with
          | zero => simp at hj hu; subst hj; subst hu; exact r1.mono m2.eh
          | succ j => exact r2 j c u hj hu
      · simp at ht
    · simp at ht
  | [], _ :: _, ht => simp [takeC] at ht
  | _ :: _, [], ht => simp [takeC] at ht
  termination_by (SizeOf.sizeOf es, 0)
end
end duo
end Go.VS
