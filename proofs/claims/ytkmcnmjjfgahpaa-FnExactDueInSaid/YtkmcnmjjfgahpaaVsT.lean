/-
  VS, part 20: values handed over from one heap to another.
-/
import Derived.Test.YtkmcnmjjfgahpaaVsS
namespace Go.VS

def restr (φ : Phi) (L : Heap) : Phi := fun id => if (L.get id).isSome then φ id else none

theorem Heap.get_del (H : Heap) (id k : Nat) : (H.del id).get k = if k = id then none else H.get k := by
  unfold Heap.del Heap.get
  simp only [List.getElem?_set]
  by_cases hk : id = k
  · subst hk
    simp only [if_true]
    split <;> rfl
  · rw [if_neg hk, if_neg (fun e => hk e.symm)]

/-- Blocks have gone, nothing else. -/
structure Less (L L1 : Heap) : Prop where
  get : ∀ id b, L1.get id = some b → L.get id = some b
  st : L1.st = L.st
  len : L1.bs.length = L.bs.length

theorem Less.refl (L : Heap) : Less L L := ⟨fun _ _ h => h, rfl, rfl⟩
theorem Less.trans {L L1 L2 : Heap} (h : Less L L1) (k : Less L1 L2) : Less L L2 := ⟨fun id b hb => h.get id b (k.get id b hb), k.st.trans h.st, k.len.trans h.len⟩
theorem Less.del (L : Heap) (id : Nat) : Less L (L.del id) := ⟨fun k b h => by rw [Heap.get_del] at h; split at h; simp at h; exact h, rfl, by simp [Heap.del]⟩

theorem restr_some {φ : Phi} {L : Heap} {id : Nat} {loc : Loc} (h : restr φ L id = some loc) : φ id = some loc ∧ ∃ b, L.get id = some b := by
  unfold restr at h
  split at h
  · rename_i hs; exact ⟨h, Option.isSome_iff_exists.1 hs⟩
  · simp at h
theorem restr_restr {φ : Phi} {L L1 : Heap} (h : Less L L1) : restr (restr φ L) L1 = restr φ L1 := by
  funext id
  unfold restr
  cases h1 : L1.get id with
  | none => simp
  | some b => simp [h.get id b h1]
theorem restr_ow {φ : Phi} {L : Heap} {c : Nat} (h : Ow (restr φ L) c) : Ow φ c := by
  obtain ⟨id, b, h⟩ := h
  exact ⟨id, b, (restr_some h).1⟩

section duo
variable {w : World}

theorem lessEvo {L L1 : Heap} {φ : Phi} {A : Avoid} (hl : Less L L1) : Evo w L φ A w L1 (restr φ L1) A := by
  refine ⟨fun c a t fr hc hn => ⟨⟨fr, hc⟩, hn⟩, by rw [hl.st]; exact Nat.le_refl _, fun id b hb _ => ⟨b, hl.get id b hb, rfl, rfl, rfl, rfl, fun loc h => ?_⟩, fun _ _ => rfl⟩
  unfold restr; rw [hb]; simpa using h

theorem lessSt {L L1 : Heap} {φ : Phi} {A : Avoid} (hst : St w L φ A) (hl : Less L L1) : St w L1 (restr φ L1) A := by
  refine ⟨fun i i' c b b' h h' => hst.inj _ _ _ _ _ (restr_some h).1 (restr_some h').1, fun c hc => hst.own c (restr_ow hc), hst.bnd, fun id loc h => ?_⟩
  obtain ⟨h1, b, hb⟩ := restr_some h
  obtain ⟨b', hb', hok⟩ := hst.blk id loc h1
  rw [hl.get id b hb] at hb'
  simp only [Option.some.injEq] at hb'; subst hb'
  refine ⟨b, hb, by rw [hl.st]; exact hok.ver, hok.sized, hok.virt, fun c b0 he => ?_⟩
  obtain ⟨arr, T, fr, k1, k2, k3, k4⟩ := hok.here c b0 he
  exact ⟨arr, T, fr, k1, k2, k3, fun i x j y v hx hy hv => ⟨(k4 i x j y v hx hy hv).1.mono (lessEvo hl), (k4 i x j y v hx hy hv).2⟩⟩

structure Duo (w : World) (L : Heap) (φL : Phi) (AL : Avoid) (H : Heap) (φ : Phi) (AH : Avoid) : Prop where
  sl : St w L φL AL
  sh : St w H φ AH
  dis : ∀ c, Ow φL c → ¬ Ow φ c
  cov : ∀ c, Ow φL c → AH c

structure Moved (w : World) (L : Heap) (φL : Phi) (AL : Avoid) (H : Heap) (φ : Phi) (AH : Avoid) (L1 : Heap) (H1 : Heap) (φ1 : Phi) : Prop where
  less : Less L L1
  duo : Duo w L1 (restr φL L1) AL H1 φ1 AH
  eh : Evo w H φ AH w H1 φ1 AH
  oh : ∀ c, Ow φ1 c → Ow φ c ∨ (Ow φL c ∧ ¬ Ow (restr φL L1) c)
  oh' : ∀ c, Ow φ c → Ow φ1 c
  hlen : H.bs.length ≤ H1.bs.length
  hget : ∀ id b, H.get id = some b → H1.get id = some b
  hphi : ∀ id loc, φ id = some loc → φ1 id = some loc

theorem Moved.refl {L : Heap} {φL : Phi} {AL : Avoid} {H : Heap} {φ : Phi} {AH : Avoid} (h : Duo w L φL AL H φ AH) : Moved w L φL AL H φ AH L H φ := by
  refine ⟨.refl _, ⟨lessSt h.sl (.refl _), h.sh, fun c hc => h.dis c (restr_ow hc), fun c hc => h.cov c (restr_ow hc)⟩, .refl _ _ _ _, fun c hc => .inl hc, fun c hc => hc, Nat.le_refl _, fun _ _ h => h, fun _ _ h => h⟩

theorem Moved.trans {L L1 L2 : Heap} {φL : Phi} {AL : Avoid} {H H1 H2 : Heap} {φ φ1 φ2 : Phi} {AH : Avoid} (h : Moved w L φL AL H φ AH L1 H1 φ1) (k : Moved w L1 (restr φL L1) AL H1 φ1 AH L2 H2 φ2) : Moved w L φL AL H φ AH L2 H2 φ2 := by
  have hr := restr_restr (φ := φL) k.less
  refine ⟨h.less.trans k.less, by rw [← hr]; exact k.duo, h.eh.trans k.eh (fun _ _ => rfl), fun c hc => ?_, fun c hc => k.oh' c (h.oh' c hc), Nat.le_trans h.hlen k.hlen, fun id b hb => k.hget id b (h.hget id b hb), fun id loc hl => k.hphi id loc (h.hphi id loc hl)⟩
  rcases k.oh c hc with h1 | ⟨h1, h2⟩
  · rcases h.oh c h1 with h3 | ⟨h3, h4⟩
    · exact .inl h3
    · refine .inr ⟨h3, fun h5 => h4 ?_⟩
      rw [← hr] at h5
      exact restr_ow h5
  · rw [hr] at h2
    exact .inr ⟨restr_ow h1, h2⟩

/-- A new block of the second heap, at a place in memory that was the first one's. -/
theorem newAt {L L1 : Heap} {φL : Phi} {AL : Avoid} {H H1 : Heap} {φ φ1 : Phi} {AH : Avoid} (m : Moved w L φL AL H φ AH L1 H1 φ1) {sz : Nat} {fx : Bool} {el : List AV} {loc : Loc}
    (hsd : ∀ (i : Nat) (x : AV), el[i]? = some x → x.cells.length = sz) (hv : loc = .virt → el = [])
    (hat : ∀ c b0, loc = .at_ c b0 → Ow φL c ∧ ¬ Ow (restr φL L1) c ∧ ¬ Ow φ1 c ∧ AH c ∧ ∃ arr T fr, w.heap[c]? = some (.cells arr T fr) ∧ (∀ j, j < arr.size → ¬ (fr.1 ≤ j ∧ j < fr.2)) ∧ b0 + el.length * sz ≤ arr.size ∧
      ∀ (i : Nat) (x : AV) (j : Nat) (y : AV) (v : Value), el[i]? = some x → x.cells[j]? = some y → arr[b0 + i * sz + j]? = some v → R w H1 φ1 AH y v ∧ v.oneCell' = true) :
    Moved w L φL AL H φ AH L1 (H1.new sz fx el) (fun i => if i = H1.bs.length then some loc else φ1 i) := by
  have hsh := m.duo.sh
  have hnew := St.new hsh (Nat.le_refl H1.bs.length)
  have hx := Heap.ext_new H1 sz fx el
  have hold : ∀ id b, (H1.new sz fx el).get id = some b → b.ver < H1.st → H1.get id = some b := (Heap.ext_old (.inr ⟨sz, fx, el, rfl⟩)).2.1
  have hevo : Evo w H1 φ1 AH w (H1.new sz fx el) (fun i => if i = H1.bs.length then some loc else φ1 i) AH := by
    refine ⟨fun c a t fr hc hn => ⟨⟨fr, hc⟩, hn⟩, hx.2, fun id b hb hlt => ⟨b, hold id b hb hlt, rfl, rfl, rfl, rfl, fun l hl => ?_⟩, fun _ _ => rfl⟩
    rw [if_neg (by rintro rfl; rw [hnew] at hl; simp at hl)]; exact hl
  have hOw : ∀ c, Ow (fun i => if i = H1.bs.length then some loc else φ1 i) c → Ow φ1 c ∨ ∃ b0, loc = .at_ c b0 := by
    rintro c ⟨i, b, h⟩
    try simp only at h
    split at h
    · simp only [Option.some.injEq] at h; exact .inr ⟨b, h⟩
    · exact .inl ⟨i, b, h⟩
  refine ⟨m.less, ⟨m.duo.sl, ⟨fun i i' c b b' h1 h2 => ?_, fun c hc => ?_, hsh.bnd, fun i l hl => ?_⟩, fun c hc ho => ?_, m.duo.cov⟩, m.eh.trans hevo (fun _ _ => rfl), fun c hc => ?_, fun c hc => ?_, ?_, fun id b hb => hx.1 _ _ (m.hget id b hb), fun id l hl => ?_⟩
  · try simp only at h1 h2
    split at h1
    · rename_i hi
      split at h2
      · rename_i hi'; omega
      · simp only [Option.some.injEq] at h1
        exact absurd ⟨i', b', h2⟩ (hat c b h1).2.2.1
    · split at h2
      · simp only [Option.some.injEq] at h2
        exact absurd ⟨i, b, h1⟩ (hat c b' h2).2.2.1
      · exact hsh.inj _ _ _ _ _ h1 h2
  · rcases hOw c hc with h | ⟨b0, h⟩
    · exact hsh.own c h
    · exact (hat c b0 h).2.2.2.1
  · try simp only at hl
    split at hl
    · rename_i hi; subst hi
      simp only [Option.some.injEq] at hl; subst hl
      refine ⟨_, Heap.get_new _ _ _ _, Nat.lt_succ_self _, hsd, hv, fun c b0 he => ?_⟩
      obtain ⟨_, _, _, _, arr, T, fr, k1, k2, k3, k4⟩ := hat c b0 he
      exact ⟨arr, T, fr, k1, k2, k3, fun j x q y v hx' hy hvv => ⟨(k4 j x q y v hx' hy hvv).1.mono hevo, (k4 j x q y v hx' hy hvv).2⟩⟩
    · obtain ⟨bb, hb, hok⟩ := hsh.blk i l hl
      refine ⟨bb, hx.1 _ _ hb, Nat.lt_of_lt_of_le hok.ver hx.2, hok.sized, hok.virt, fun c b0 he => ?_⟩
      obtain ⟨arr, T, fr, k1, k2, k3, k4⟩ := hok.here c b0 he
      exact ⟨arr, T, fr, k1, k2, k3, fun j x q y v hx' hy hvv => ⟨(k4 j x q y v hx' hy hvv).1.mono hevo, (k4 j x q y v hx' hy hvv).2⟩⟩
  · rcases hOw c ho with h | ⟨b0, h⟩
    · exact m.duo.dis c hc h
    · exact (hat c b0 h).2.1 hc
  · rcases hOw c hc with h | ⟨b0, h⟩
    · exact m.oh c h
    · exact .inr ⟨(hat c b0 h).1, (hat c b0 h).2.1⟩
  · obtain ⟨i, b, h⟩ := m.oh' c hc
    exact ⟨i, b, by show (if i = H1.bs.length then some loc else φ1 i) = _; rw [if_neg (by rintro rfl; rw [hnew] at h; simp at h)]; exact h⟩
  · simp only [Heap.new, List.length_append, List.length_singleton]; exact Nat.le_succ_of_le m.hlen
  · have := m.hphi id l hl
    rw [if_neg (by rintro rfl; rw [hnew] at this; simp at this)]; exact this
end duo
end Go.VS
