/-
  VS, part 27: a call comes back, what was lent in its place again.
-/
import Derived.Test.YtkmcnmjjfgahpaaVsZ
namespace Go.VS

/-- What left the callee's heap. -/
def RootEls (L Lm : Heap) : List Mode → List AV → List (List AV) → Prop
  | .io :: ms, x :: xs, l :: ls => (∃ k kv b, rootK x = some (k, kv) ∧ L.blk k kv = some b ∧ b.el = l ∧ Lm.get k = none) ∧ RootEls L Lm ms xs ls
  | .io :: _, _ :: _, [] => False
  | .val :: ms, _ :: xs, ls => RootEls L Lm ms xs ls
  | .mov :: ms, _ :: xs, ls => RootEls L Lm ms xs ls
  | _, _, _ => True

theorem RootEls.mono {L0 L Lm : Heap} (h : Less L0 L) : ∀ {ms : List Mode} {xs : List AV} {ls : List (List AV)}, RootEls L Lm ms xs ls → RootEls L0 Lm ms xs ls
  | [], xs, ls, _ => by simp [RootEls]
  | m :: ms, [], ls, _ => by cases m <;> simp [RootEls]
  | .val :: ms, x :: xs, ls, hr => by simp only [RootEls] at hr ⊢; exact hr.mono h
  | .mov :: ms, x :: xs, ls, hr => by simp only [RootEls] at hr ⊢; exact hr.mono h
  | .io :: ms, x :: xs, [], hr => by simp only [RootEls] at hr
  | .io :: ms, x :: xs, l :: ls, hr => by
    simp only [RootEls] at hr ⊢
    obtain ⟨⟨k, kv, b, h1, h2, h3, h4⟩, h5⟩ := hr
    exact ⟨⟨k, kv, b, h1, Heap.blk_less h h2, h3, h4⟩, h5.mono h⟩

theorem takeRoots_spec : ∀ (ms : List Mode) (vs : List AV) (L : Heap) (ls : List (List AV)) (Lm : Heap), takeRoots ms vs L = some (ls, Lm) → Less L Lm ∧ RootEls L Lm ms vs ls
  | [], vs, L, ls, Lm, h => by
    simp only [takeRoots, Option.some.injEq, Prod.mk.injEq] at h; obtain ⟨rfl, rfl⟩ := h; exact ⟨.refl _, by simp [RootEls]⟩
  | m :: ms, [], L, ls, Lm, h => by
    cases m <;> (simp only [takeRoots, Option.some.injEq, Prod.mk.injEq] at h; obtain ⟨rfl, rfl⟩ := h; exact ⟨.refl _, by simp [RootEls]⟩)
  | .val :: ms, x :: xs, L, ls, Lm, h => by simp only [takeRoots] at h; simpa only [RootEls] using takeRoots_spec ms xs L ls Lm h
  | .mov :: ms, x :: xs, L, ls, Lm, h => by simp only [takeRoots] at h; simpa only [RootEls] using takeRoots_spec ms xs L ls Lm h
  | .io :: ms, x :: xs, L, ls, Lm, h => by
    simp only [takeRoots] at h
    split at h
    · rename_i id ver hk
      split at h
      · rename_i b hb
        split at h
        · rename_i r H' hr
          simp only [Option.some.injEq, Prod.mk.injEq] at h
          obtain ⟨rfl, rfl⟩ := h
          obtain ⟨h1, h2⟩ := takeRoots_spec ms xs _ _ _ hr
          refine ⟨(Less.del L id).trans h1, ?_⟩
          simp only [RootEls]
          refine ⟨⟨id, ver, b, hk, hb, rfl, ?_⟩, h2.mono (Less.del L id)⟩
          cases hq : H'.get id with
          | none => rfl
          | some b => have := h1.get _ _ hq; rw [Heap.get_del, if_pos rfl] at this; simp at this
        · simp at h
      · simp at h
    · simp at h

def junk (b : Blk) : Blk := { b with el := b.el.map fun _ => .agg (List.replicate b.sz .undef) }

theorem upd_get {H : Heap} {id k : Nat} {b b' : Blk} (h : (H.upd id b).get k = some b') : (k = id ∧ b' = b) ∨ H.get k = some b' := by
  unfold Heap.upd Heap.get at h
  simp only [List.getElem?_set] at h
  by_cases hk : id = k
  · subst hk
    simp only [if_true] at h
    split at h
    · simp at h; exact .inl ⟨rfl, h.symm⟩
    · simp at h
  · rw [if_neg hk] at h
    exact .inr h

theorem get_upd_new {H : Heap} {id : Nat} {b : Blk} (h : id < H.bs.length) (k : Nat) : (H.upd id b).get k = if k = id then some b else H.get k := by
  unfold Heap.upd Heap.get
  simp only [List.getElem?_set]
  by_cases hk : id = k
  · subst hk; simp [h]
  · rw [if_neg hk, if_neg (fun e => hk e.symm)]

/-- One step of 'putJunk'. -/
def junk1 (H0 : Heap) (v : AV) (H : Heap) : Heap :=
  match rootId v with
  | some (id, ver) => match H0.blk id ver with
    | some b => H.upd id (junk b)
    | none => H
  | none => H

theorem junk1_len (H0 : Heap) (v : AV) (H : Heap) : (junk1 H0 v H).bs.length = H.bs.length ∧ (junk1 H0 v H).st = H.st := by
  unfold junk1
  split
  · split
    · simp [Heap.upd]
    · exact ⟨rfl, rfl⟩
  · exact ⟨rfl, rfl⟩

theorem putJunk_io (H0 : Heap) (ms : List Mode) (v : AV) (vs : List AV) (H : Heap) : putJunk H0 (.io :: ms) (v :: vs) H = putJunk H0 ms vs (junk1 H0 v H) := rfl

theorem junk1_get {H0 : Heap} {v : AV} {H : Heap} {k : Nat} {b' : Blk} (h : (junk1 H0 v H).get k = some b') : H.get k = some b' ∨ ∃ ver b, rootId v = some (k, ver) ∧ H0.blk k ver = some b ∧ b' = junk b := by
  unfold junk1 at h
  split at h
  · rename_i id ver hr
    split at h
    · rename_i b hb
      rcases upd_get h with ⟨rfl, rfl⟩ | h
      · exact .inr ⟨ver, b, hr, hb, rfl⟩
      · exact .inl h
    · exact .inl h
  · exact .inl h

theorem putJunk_len (H0 : Heap) : ∀ (ms : List Mode) (as : List AV) (H : Heap), (putJunk H0 ms as H).bs.length = H.bs.length ∧ (putJunk H0 ms as H).st = H.st
  | [], as, H => by simp [putJunk]
  | m :: ms, [], H => by cases m <;> simp [putJunk]
  | .val :: ms, a :: as, H => by simp only [putJunk]; exact putJunk_len H0 ms as H
  | .mov :: ms, a :: as, H => by simp only [putJunk]; exact putJunk_len H0 ms as H
  | .io :: ms, a :: as, H => by
    rw [putJunk_io]
    have := putJunk_len H0 ms as (junk1 H0 a H)
    have h2 := junk1_len H0 a H
    exact ⟨this.1.trans h2.1, this.2.trans h2.2⟩

/-- What a block is, by where it stands. 'P' holds of every root. -/
theorem putJunk_get (H0 : Heap) {Lx Lm : Heap} {φ : Phi} {L0 : Heap} {φ0 : Phi} : ∀ (ms : List Mode) (as vs : List AV) (ls : List (List AV)) (H : Heap) (k : Nat) (b' : Blk), as.length = vs.length → Roots H0 φ L0 φ0 ms as vs → RootEls Lx Lm ms vs ls →
    (putJunk H0 ms as H).get k = some b' → H.get k = some b' ∨ ∃ a x ver b kk kv bk, rootId a = some (k, ver) ∧ H0.blk k ver = some b ∧ b' = junk b ∧ RootOK H0 φ L0 φ0 a x ∧ rootK x = some (kk, kv) ∧ Lx.blk kk kv = some bk ∧ Lm.get kk = none
  | [], as, vs, ls, H, k, b', _, _, _, h => by simp only [putJunk] at h; exact .inl h
  | m :: ms, [], vs, ls, H, k, b', _, _, _, h => by cases m <;> (simp only [putJunk] at h; exact .inl h)
  | m :: ms, a :: as, [], ls, H, k, b', hl, _, _, h => by simp at hl
  | .val :: ms, a :: as, x :: vs, ls, H, k, b', hl, h1, h2, h => by
    simp only [putJunk] at h
    exact putJunk_get H0 ms as vs ls H k b' (by simpa using hl) (by simpa only [Roots] using h1) (by simpa only [RootEls] using h2) h
  | .mov :: ms, a :: as, x :: vs, ls, H, k, b', hl, h1, h2, h => by
    simp only [putJunk] at h
    exact putJunk_get H0 ms as vs ls H k b' (by simpa using hl) (by simpa only [Roots] using h1) (by simpa only [RootEls] using h2) h
  | .io :: ms, a :: as, x :: vs, [], H, k, b', hl, h1, h2, h => by simp only [RootEls] at h2
  | .io :: ms, a :: as, x :: vs, l :: ls, H, k, b', hl, h1, h2, h => by
    rw [putJunk_io] at h
    simp only [Roots] at h1
    simp only [RootEls] at h2
    rcases putJunk_get H0 ms as vs ls _ k b' (by simpa using hl) h1.2 h2.2 h with h3 | h3
    · rcases junk1_get h3 with h4 | ⟨ver, b, q1, q2, q3⟩
      · exact .inl h4
      · obtain ⟨kk, kv, bk, p1, p2, _, p4⟩ := h2.1
        exact .inr ⟨a, x, ver, b, kk, kv, bk, q1, q2, q3, h1.1, p1, p2, p4⟩
    · exact .inr h3

/-- A root is there again. -/
def Has (Hx : Heap) (id ver : Nat) (b : Blk) : Prop := ∃ b', Hx.blk id ver = some b' ∧ b'.sz = b.sz ∧ b'.el.length = b.el.length

theorem Has.junk1 {H0 Hx : Heap} {id ver : Nat} {b : Blk} (h0 : H0.blk id ver = some b) (h : Has Hx id ver b) (v : AV) : Has (junk1 H0 v Hx) id ver b := by
  obtain ⟨b', h1, h2, h3⟩ := h
  unfold VS.junk1
  split
  · rename_i id2 ver2 hr
    split
    · rename_i b2 hb2
      have hlt : id < Hx.bs.length := Heap.get_lt (Heap.blk_get h1).1
      by_cases hid : id2 = id
      · subst hid
        have g1 := Heap.blk_get h0
        have g2 := Heap.blk_get hb2
        have : b2 = b := by have := g1.1.symm.trans g2.1; simp only [Option.some.injEq] at this; exact this.symm
        subst this
        refine ⟨junk b2, ?_, rfl, by simp [junk]⟩
        have := Heap.blk_of_get (H := Hx.upd id2 (junk b2)) (id := id2) (b := junk b2) (by rw [get_upd_new hlt, if_pos rfl])
        rw [← g1.2]; exact this
      · refine ⟨b', ?_, h2, h3⟩
        have g := Heap.blk_get h1
        have : (Hx.upd id2 (junk b2)).get id = some b' := by
          unfold Heap.upd Heap.get
          simp only [List.getElem?_set]
          rw [if_neg hid]; exact g.1
        rw [← g.2]; exact Heap.blk_of_get this
    · exact ⟨b', h1, h2, h3⟩
  · exact ⟨b', h1, h2, h3⟩

theorem Has.junks {H0 : Heap} {id ver : Nat} {b : Blk} (h0 : H0.blk id ver = some b) : ∀ (ms : List Mode) (as : List AV) (Hx : Heap), Has Hx id ver b → Has (putJunk H0 ms as Hx) id ver b
  | [], as, Hx, h => by simpa only [putJunk] using h
  | m :: ms, [], Hx, h => by cases m <;> simpa only [putJunk] using h
  | .val :: ms, a :: as, Hx, h => by simp only [putJunk]; exact Has.junks h0 ms as Hx h
  | .mov :: ms, a :: as, Hx, h => by simp only [putJunk]; exact Has.junks h0 ms as Hx h
  | .io :: ms, a :: as, Hx, h => by rw [putJunk_io]; exact Has.junks h0 ms as _ (h.junk1 h0 a)

theorem Has.self {H0 Hx : Heap} {id ver : Nat} {b : Blk} (h0 : H0.blk id ver = some b) (hlen : Hx.bs.length = H0.bs.length) {a : AV} (hr : rootId a = some (id, ver)) : Has (VS.junk1 H0 a Hx) id ver b := by
  have g := Heap.blk_get h0
  have hlt : id < Hx.bs.length := by rw [hlen]; exact Heap.get_lt g.1
  unfold VS.junk1
  simp only [hr, h0]
  refine ⟨junk b, ?_, rfl, by simp [junk]⟩
  have := Heap.blk_of_get (H := Hx.upd id (junk b)) (id := id) (b := junk b) (by rw [get_upd_new hlt, if_pos rfl])
  rw [← g.2]; exact this

/-- What the caller keeps off from then on. -/
structure AHok (w : World) (A : Avoid) (φ0 : Phi) (w' : World) (φ' : Phi) (AH : Avoid) : Prop where
  own : ∀ c, A c → ¬ Ow φ0 c → AH c
  cov : ∀ c, Ow φ' c → AH c
  bnd : ∀ c, AH c → c < w'.heap.size
  fz : ∀ c arr T fr, w.heap[c]? = some (.cells arr T fr) → ¬ A c → (∃ fr', w'.heap[c]? = some (.cells arr T fr')) ∧ ¬ AH c

/-- A root's elements, and where they go. -/
def RootL (w : World) (L : Heap) (φL : Phi) (AL : Avoid) (H : Heap) (φ : Phi) (a : AV) (l : List AV) : Prop :=
  (rootId a = none → l = []) ∧ ∀ id ver, rootId a = some (id, ver) → ∃ c b0 b arr T fr, H.blk id ver = some b ∧ φ id = some (.at_ c b0) ∧ w.heap[c]? = some (.cells arr T fr) ∧ l.length = b.el.length ∧
    (∀ (i : Nat) (x : AV), l[i]? = some x → x.cells.length = b.sz) ∧ ∀ (i : Nat) (x : AV) (j : Nat) (y : AV) (v : Value), l[i]? = some x → x.cells[j]? = some y → arr[b0 + i * b.sz + j]? = some v → R w L φL AL y v

def RootLs (w : World) (L : Heap) (φL : Phi) (AL : Avoid) (H : Heap) (φ : Phi) : List Mode → List AV → List (List AV) → Prop
  | .io :: ms, a :: as, l :: ls => RootL w L φL AL H φ a l ∧ RootLs w L φL AL H φ ms as ls
  | .val :: ms, _ :: as, ls => RootLs w L φL AL H φ ms as ls
  | .mov :: ms, _ :: as, ls => RootLs w L φL AL H φ ms as ls
  | _, _, _ => True

section back
variable {w w' : World} {A : Avoid} {H : Heap} {φ : Phi} {H1 L0 : Heap} {φ0 : Phi} {A0 : Avoid} {L : Heap} {φ' : Phi} {A' AH : Avoid} {ms : List Mode} {as vs : List AV} {ls : List (List AV)} {Lm : Heap}

/-- A root at the call's end. -/
theorem root_end (m : Moved w H φ A ⟨0, []⟩ (fun _ => none) A H1 L0 φ0) (ho : Out w L0 φ0 A0 w' L φ' A') {a x : AV} (hr : RootOK H φ L0 φ0 a x) {kk kv : Nat} {bk : Blk} (hk : rootK x = some (kk, kv)) (hb : L.blk kk kv = some bk) :
    (rootId a = none → bk.el = []) ∧ ∀ id ver, rootId a = some (id, ver) → ∃ b c b0, H.blk id ver = some b ∧ bk.sz = b.sz ∧ bk.el.length = b.el.length ∧ φ id = some (.at_ c b0) ∧ φ' kk = some (.at_ c b0) ∧ BlkOK w' L φ' A' bk (.at_ c b0) := by
  obtain ⟨k, kv', b1, e1, e2, ⟨loc, e2'⟩, e3, e4⟩ := hr
  rw [hk] at e1
  simp only [Option.some.injEq, Prod.mk.injEq] at e1
  obtain ⟨rfl, rfl⟩ := e1
  obtain ⟨g1, g2⟩ := Heap.blk_get hb
  obtain ⟨f1, f2⟩ := Heap.blk_get e2
  have hlt : kv < L0.st := by
    obtain ⟨bb, p1, p2⟩ := m.duo.sh.blk kk loc e2'
    rw [f1] at p1
    simp only [Option.some.injEq] at p1; subst p1
    rw [← f2]; exact p2.ver
  · obtain ⟨b2, i1, i2, i3, i4, i5, i6⟩ := ho.evo.ids kk bk g1 (by omega)
    rw [f1] at i1
    simp only [Option.some.injEq] at i1; subst i1
    refine ⟨fun h => List.eq_nil_of_length_eq_zero (by rw [i5, e3 h]; rfl), fun id ver h => ?_⟩
    obtain ⟨b, c, b0, q1, q2, q3, q4, q5⟩ := e4 id ver h
    have hp := i6 _ q5
    obtain ⟨bb, p1, p2⟩ := ho.st.blk kk _ hp
    rw [g1] at p1
    simp only [Option.some.injEq] at p1; subst p1
    exact ⟨b, c, b0, q1, i3.trans q2, i5.trans q3, q4, hp, p2⟩

/-- The caller's side, as the callee ends; what was lent is there, its content open. -/
theorem junk_ok (hst : St w H φ A) (m : Moved w H φ A ⟨0, []⟩ (fun _ => none) A H1 L0 φ0) (hlen : as.length = vs.length) (hro : Roots H φ L0 φ0 ms as vs) (ho : Out w L0 φ0 A0 w' L φ' A') (ha : AHok w A φ0 w' φ' AH) (ht : takeRoots ms vs L = some (ls, Lm)) :
    Duo w' Lm (restr φ' Lm) A' (putJunk H ms as H1) (restr φ (putJunk H ms as H1)) AH ∧ Evo w H φ A w' (putJunk H ms as H1) (restr φ (putJunk H ms as H1)) AH := by
  obtain ⟨hl1, hre⟩ := takeRoots_spec _ _ _ _ _ ht
  have hsub : ∀ c, Ow φ0 c → Ow φ c := fun c hc => by
    rcases m.oh c hc with ⟨i, b, h⟩ | h
    · simp at h
    · exact h.1
  have hget := fun k b' => putJunk_get H ms as vs ls H1 k b' hlen hro hre
  have hstj := (putJunk_len H ms as H1).2
  have hevo : Evo w H φ A w' (putJunk H ms as H1) (restr φ (putJunk H ms as H1)) AH := by
    refine ⟨ha.fz, by rw [hstj, m.less.st]; exact Nat.le_refl _, fun id b' hb' _ => ?_, fun c hc => ho.post.bsz c (Ow.lt hst hc)⟩
    have hphi : ∀ loc, φ id = some loc → restr φ (putJunk H ms as H1) id = some loc := fun loc h => by simp [restr, hb', h]
    rcases hget id b' hb' with h | ⟨a, x, ver, b, kk, kv, bk, q1, q2, rfl, q4, q5, q6, q7⟩
    · exact ⟨b', m.less.get _ _ h, rfl, rfl, rfl, rfl, hphi⟩
    · exact ⟨b, (Heap.blk_get q2).1, rfl, rfl, rfl, by simp [junk], hphi⟩
  refine ⟨⟨lessSt ho.st hl1, ⟨fun i i' c b b' h1 h2 => hst.inj _ _ _ _ _ (restr_some h1).1 (restr_some h2).1, fun c hc => ?_, ha.bnd, fun id loc hl => ?_⟩, fun c hc hj => ?_, fun c hc => ha.cov c (restr_ow hc)⟩, hevo⟩
  · obtain ⟨id, b0, h⟩ := hc
    obtain ⟨h1, b', hb'⟩ := restr_some h
    rcases hget id b' hb' with h2 | ⟨a, x, ver, b, kk, kv, bk, q1, q2, rfl, q4, q5, q6, q7⟩
    · refine ha.own c (hst.own c ⟨id, b0, h1⟩) (m.duo.dis c ⟨id, b0, ?_⟩)
      simp [restr, h2, h1]
    · obtain ⟨_, re⟩ := root_end m ho q4 q5 q6
      obtain ⟨b2, c2, b02, _, _, _, r4, r5, _⟩ := re id _ q1
      rw [h1] at r4
      simp only [Option.some.injEq, Loc.at_.injEq] at r4
      obtain ⟨rfl, rfl⟩ := r4
      exact ha.cov c ⟨kk, b0, r5⟩
  · obtain ⟨h1, b', hb'⟩ := restr_some hl
    refine ⟨b', hb', ?_⟩
    rcases hget id b' hb' with h2 | ⟨a, x, ver, b, kk, kv, bk, q1, q2, rfl, q4, q5, q6, q7⟩
    · obtain ⟨b2, hb2, hok⟩ := hst.blk id loc h1
      rw [m.less.get _ _ h2] at hb2
      simp only [Option.some.injEq] at hb2; subst hb2
      refine ⟨by rw [hstj, m.less.st]; exact hok.ver, hok.sized, hok.virt, fun c b0 he => ?_⟩
      subst he
      obtain ⟨arr, T, fr, k1, k2, k3, k4⟩ := hok.here c b0 rfl
      have hn : ¬ Ow φ0 c := m.duo.dis c ⟨id, b0, by simp [restr, h2, h1]⟩
      refine ⟨arr, T, fr, ?_, k2, k3, fun i x j y v hx hy hv => ⟨(k4 i x j y v hx hy hv).1.mono hevo, (k4 i x j y v hx hy hv).2⟩⟩
      rw [ho.post.kept c (Ow.lt hst ⟨id, b0, h1⟩) hn]
      exact k1
    · obtain ⟨_, re⟩ := root_end m ho q4 q5 q6
      obtain ⟨b2, c2, b02, r1, r2, r3, r4, r5, hok⟩ := re id _ q1
      rw [h1] at r4
      simp only [Option.some.injEq] at r4; subst r4
      rw [q2] at r1
      simp only [Option.some.injEq] at r1; subst r1
      obtain ⟨b3, hb3, hok3⟩ := hst.blk id _ h1
      rw [(Heap.blk_get q2).1] at hb3
      simp only [Option.some.injEq] at hb3; subst hb3
      have hcs : ∀ (i : Nat) (x : AV), (junk b).el[i]? = some x → i < b.el.length ∧ x = .agg (List.replicate b.sz .undef) := by
        intro i x hx
        simp only [junk, List.getElem?_map, Option.map_eq_some_iff] at hx
        obtain ⟨z, hz, rfl⟩ := hx
        exact ⟨(List.getElem?_eq_some_iff.1 hz).1, rfl⟩
      refine ⟨by rw [hstj, m.less.st]; exact hok3.ver, fun i x hx => by rw [(hcs i x hx).2]; simp [AV.cells, junk], fun h => by simp at h, fun c b0 he => ?_⟩
      simp only [Loc.at_.injEq] at he
      obtain ⟨rfl, rfl⟩ := he
      obtain ⟨arr, T, fr, k1, k2, k3, k4⟩ := hok.here c2 b02 rfl
      refine ⟨arr, T, fr, k1, k2, by simp only [junk, List.length_map]; rw [← r3, ← r2]; exact k3, fun i x j y v hx hy hv => ?_⟩
      obtain ⟨hi, rfl⟩ := hcs i x hx
      have hj : j < b.sz := by have := (List.getElem?_eq_some_iff.1 hy).1; simpa [AV.cells] using this
      have hyu : y = .undef := by simp only [AV.cells] at hy; rw [List.getElem?_replicate, if_pos hj] at hy; simpa using hy.symm
      subst hyu
      refine ⟨.fr _ _ (.undef _), ?_⟩
      have hbi := List.getElem?_eq_getElem (show i < bk.el.length by omega)
      exact (k4 i _ j _ v hbi (List.getElem?_eq_getElem (show j < _ by rw [hok.sized _ _ hbi, r2]; exact hj)) (by rw [r2]; exact hv)).2
  · obtain ⟨id, b0, h⟩ := hj
    obtain ⟨h1, b', hb'⟩ := restr_some h
    rcases hget id b' hb' with h2 | ⟨a, x, ver, b, kk, kv, bk, q1, q2, rfl, q4, q5, q6, q7⟩
    · rcases ho.post.own c (restr_ow hc) with h3 | h3
      · exact m.duo.dis c ⟨id, b0, by simp [restr, h2, h1]⟩ h3
      · have := Ow.lt hst ⟨id, b0, h1⟩
        omega
    · obtain ⟨_, re⟩ := root_end m ho q4 q5 q6
      obtain ⟨b2, c2, b02, _, _, _, r4, r5, _⟩ := re id _ q1
      rw [h1] at r4
      simp only [Option.some.injEq, Loc.at_.injEq] at r4
      obtain ⟨rfl, rfl⟩ := r4
      obtain ⟨i, bb, hi⟩ := hc
      obtain ⟨hi1, bx, hbx⟩ := restr_some hi
      have := ho.st.inj _ _ _ _ _ hi1 r5
      subst this
      rw [q7] at hbx; simp at hbx

theorem rootLs_ok (m : Moved w H φ A ⟨0, []⟩ (fun _ => none) A H1 L0 φ0) (ho : Out w L0 φ0 A0 w' L φ' A') (hl1 : Less L Lm) {Hj : Heap} :
    ∀ (ms : List Mode) (as vs : List AV) (ls : List (List AV)) (Hx : Heap), Hx.bs.length = H.bs.length → as.length = vs.length → Roots H φ L0 φ0 ms as vs → RootEls L Lm ms vs ls → Hj = putJunk H ms as Hx → RootLs w' Lm (restr φ' Lm) A' Hj (restr φ Hj) ms as ls
  | [], as, vs, ls, Hx, _, _, _, _, _ => by simp [RootLs]
  | m :: ms, [], vs, ls, Hx, _, _, _, _, _ => by cases m <;> simp [RootLs]
  | m :: ms, a :: as, [], ls, Hx, _, hl, _, _, _ => by simp at hl
  | .val :: ms, a :: as, x :: vs, ls, Hx, hb, hl, h1, h2, h3 => by
    simp only [RootLs]
    exact rootLs_ok m ho hl1 ms as vs ls Hx hb (by simpa using hl) (by simpa only [Roots] using h1) (by simpa only [RootEls] using h2) (by simpa only [putJunk] using h3)
  | .mov :: ms, a :: as, x :: vs, ls, Hx, hb, hl, h1, h2, h3 => by
    simp only [RootLs]
    exact rootLs_ok m ho hl1 ms as vs ls Hx hb (by simpa using hl) (by simpa only [Roots] using h1) (by simpa only [RootEls] using h2) (by simpa only [putJunk] using h3)
  | .io :: ms, a :: as, x :: vs, [], Hx, hb, hl, h1, h2, h3 => by simp only [RootEls] at h2
  | .io :: ms, a :: as, x :: vs, l :: ls, Hx, hb, hl, h1, h2, h3 => by
    simp only [Roots] at h1
    simp only [RootEls] at h2
    rw [putJunk_io] at h3
    simp only [RootLs]
    refine ⟨?_, rootLs_ok m ho hl1 ms as vs ls _ ((junk1_len H a Hx).1.trans hb) (by simpa using hl) h1.2 h2.2 h3⟩
    obtain ⟨kk, kv, bk, q1, q2, rfl, q4⟩ := h2.1
    obtain ⟨r1, r2⟩ := root_end m ho h1.1 q1 q2
    refine ⟨r1, fun id ver hr => ?_⟩
    obtain ⟨b, c, b0, p1, p2, p3, p4, p5, hok⟩ := r2 id ver hr
    obtain ⟨b', e1, e2, e3⟩ := Has.junks p1 ms as _ (Has.self p1 hb hr)
    rw [← h3] at e1
    obtain ⟨arr, T, fr, k1, k2, k3, k4⟩ := hok.here c b0 rfl
    refine ⟨c, b0, b', arr, T, fr, e1, by simp [restr, (Heap.blk_get e1).1, p4], k1, by rw [p3, e3], fun i x hx => by rw [hok.sized i x hx, p2, e2], fun i x j y v hx hy hv => ?_⟩
    rw [e2, ← p2] at hv
    exact (k4 i x j y v hx hy hv).1.mono (lessEvo hl1)
end back
end Go.VS
