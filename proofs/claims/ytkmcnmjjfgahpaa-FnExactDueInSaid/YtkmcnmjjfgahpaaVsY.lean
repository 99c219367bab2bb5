/-
  VS, part 25: a call's arguments come to the callee.
-/
import Derived.Test.YtkmcnmjjfgahpaaVsX
namespace Go.VS

theorem thawL_id : ∀ (ys : List AV) (L : Heap), (∀ (i : Nat) (z : AV), ys[i]? = some z → ∀ L, thawV z L = (z, L)) → thawL ys L = (ys, L)
  | [], L, _ => rfl
  | y :: ys, L, h => by
    have h1 := h 0 y rfl L
    have h2 := thawL_id ys L (fun i z hz => h (i + 1) z hz)
    simp only [thawL, h1, h2]

theorem snap_thaw (H : Heap) : ∀ (n : Nat) (x y : AV), snapV n H x = some y → ∀ L, thawV y L = (y, L)
  | 0, x, y, h, L => by simp [snapV] at h
  | n + 1, x, y, h, L => by
    cases x with
    | agg cs =>
      simp only [snapV, Option.map_eq_some_iff] at h
      obtain ⟨ys, hm, rfl⟩ := h
      obtain ⟨l1, p1⟩ := mapM_some hm
      have := thawL_id ys L (fun i z hz => by
        have hil : i < cs.length := by rw [← l1]; exact (List.getElem?_eq_some_iff.1 hz).1
        exact snap_thaw H n _ z (p1 i _ z (List.getElem?_eq_getElem hil) hz))
      simp only [thawV, this]
    | fn f cs => simp only [snapV, Option.map_eq_some_iff] at h; obtain ⟨ys, _, rfl⟩ := h; rfl
    | ref id ver off len =>
      simp only [snapV] at h
      split at h
      · split at h
        · simp only [Option.map_eq_some_iff] at h; obtain ⟨ys, _, rfl⟩ := h; rfl
        · simp at h
      · simp at h
    | ptr id ver idx off =>
      simp only [snapV] at h
      split at h
      · split at h
        · simp only [Option.map_eq_some_iff] at h; obtain ⟨ys, _, rfl⟩ := h; rfl
        · simp at h
      · simp at h
    | own sz xs => simp [snapV] at h
    | optr sz xs => simp [snapV] at h
    | tup xs => simp [snapV] at h
    | _ => simp only [snapV, Option.some.injEq] at h; subst h; rfl

/-- How a root in the callee's heap stands to the caller's. -/
def RootOK (H : Heap) (φ : Phi) (L0 : Heap) (φ0 : Phi) (a x : AV) : Prop :=
  ∃ k kv bk, rootK x = some (k, kv) ∧ L0.blk k kv = some bk ∧ (∃ loc, φ0 k = some loc) ∧ (rootId a = none → bk.el = []) ∧
    ∀ id ver, rootId a = some (id, ver) → ∃ b c b0, H.blk id ver = some b ∧ bk.sz = b.sz ∧ bk.el.length = b.el.length ∧ φ id = some (.at_ c b0) ∧ φ0 k = some (.at_ c b0)

def Roots (H : Heap) (φ : Phi) (L0 : Heap) (φ0 : Phi) : List Mode → List AV → List AV → Prop
  | .io :: ms, a :: as, x :: xs => RootOK H φ L0 φ0 a x ∧ Roots H φ L0 φ0 ms as xs
  | _ :: ms, _ :: as, _ :: xs => Roots H φ L0 φ0 ms as xs
  | _, _, _ => True

theorem Heap.blk_less {L L1 : Heap} (h : Less L L1) {id ver : Nat} {b : Blk} (hb : L1.blk id ver = some b) : L.blk id ver = some b := by
  obtain ⟨h1, h2⟩ := Heap.blk_get hb
  have := Heap.blk_of_get (h.get id b h1)
  rwa [h2] at this

theorem blk_hget {L L1 : Heap} (h : ∀ id b, L.get id = some b → L1.get id = some b) {id ver : Nat} {b : Blk} (hb : L.blk id ver = some b) : L1.blk id ver = some b := by
  obtain ⟨h1, h2⟩ := Heap.blk_get hb
  have := Heap.blk_of_get (h id b h1)
  rwa [h2] at this

theorem RootOK.mono {H H' : Heap} {φ : Phi} {L0 L1 : Heap} {φ0 φ1 : Phi} {a x : AV} (hl : Less H H') (hget : ∀ id b, L0.get id = some b → L1.get id = some b) (hphi : ∀ id loc, φ0 id = some loc → φ1 id = some loc)
    (h : RootOK H' (restr φ H') L0 φ0 a x) : RootOK H φ L1 φ1 a x := by
  obtain ⟨k, kv, bk, h1, h2, ⟨loc, h2'⟩, h3, h4⟩ := h
  refine ⟨k, kv, bk, h1, blk_hget hget h2, ⟨loc, hphi _ _ h2'⟩, h3, fun id ver hr => ?_⟩
  obtain ⟨b, c, b0, q1, q2, q3, q4, q5⟩ := h4 id ver hr
  exact ⟨b, c, b0, Heap.blk_less hl q1, q2, q3, (restr_some q4).1, hphi _ _ q5⟩

theorem Roots.mono {H H' : Heap} {φ : Phi} {L0 L1 : Heap} {φ0 φ1 : Phi} (hl : Less H H') (hget : ∀ id b, L0.get id = some b → L1.get id = some b) (hphi : ∀ id loc, φ0 id = some loc → φ1 id = some loc) :
    ∀ {ms : List Mode} {as xs : List AV}, Roots H' (restr φ H') L0 φ0 ms as xs → Roots H φ L1 φ1 ms as xs
  | [], _, _, _ => by simp [Roots]
  | .io :: ms, a :: as, x :: xs, h => by
    simp only [Roots] at h ⊢
    exact ⟨h.1.mono hl hget hphi, Roots.mono hl hget hphi h.2⟩
  | .val :: ms, a :: as, x :: xs, h => by
    simp only [Roots] at h ⊢
    exact Roots.mono hl hget hphi h
  | .mov :: ms, a :: as, x :: xs, h => by
    simp only [Roots] at h ⊢
    exact Roots.mono hl hget hphi h
  | m :: ms, [], _, _ => by cases m <;> simp [Roots]
  | m :: ms, _ :: _, [], _ => by cases m <;> simp [Roots]

section duo
variable {w : World} {A : Avoid}

/-- An empty one, handed over and back. -/
theorem ioNil {H : Heap} {φ : Phi} {L : Heap} {φL : Phi} (hd : Duo w H φ A L φL A) (sz : Nat) {a : AV} {u : Value} (hv : ∃ p cap, u = .slice p 0 cap) (hr : rootId a = none) :
    ∃ φ1, Moved w H φ A L φL A H (L.new sz true []) φ1 ∧ R w (L.new sz true []) φ1 A (.ref L.bs.length L.st 0 0) u ∧ RootOK H φ (L.new sz true []) φ1 a (.ref L.bs.length L.st 0 0) := by
  obtain ⟨p, cap, rfl⟩ := hv
  have m := newAt (Moved.refl hd) (sz := sz) (fx := true) (el := []) (loc := .virt) (by simp) (fun _ => rfl) (by simp)
  have hg := Heap.get_new L sz true []
  refine ⟨_, m, .ref _ _ _ _ _ (Nat.lt_succ_self _) ⟨_, _, _, rfl⟩ fun b hb => ?_, _, _, _, rfl, Heap.blk_of_get hg, ⟨.virt, by simp⟩, fun _ => rfl, fun id ver h => by rw [hr] at h; simp at h⟩
  have := blk_same hg hb
  subst this
  exact ⟨.virt, p, cap, by simp, rfl, by simp, Nat.zero_le _, by simp, rfl, fun h => by simp at h⟩

/-- What is handed over, and back. -/
theorem ioStep {H : Heap} {φ : Phi} {L : Heap} {φL : Phi} (hd : Duo w H φ A L φL A) {sh : List Sh} {a : AV} {u : Value} (ha : R w H φ A a u) {z : AV} {H1 : Heap} (hz : prepM .io sh a H = some (z, H1)) :
    (∃ sz xs φ1, z = .own sz xs ∧ Moved w H φ A L φL A H1 ((thawL xs L).2.new sz true (thawL xs L).1) φ1 ∧
      R w ((thawL xs L).2.new sz true (thawL xs L).1) φ1 A (.ref (thawL xs L).2.bs.length (thawL xs L).2.st 0 (thawL xs L).1.length) u ∧
      RootOK H φ ((thawL xs L).2.new sz true (thawL xs L).1) φ1 a (.ref (thawL xs L).2.bs.length (thawL xs L).2.st 0 (thawL xs L).1.length)) ∨
    (∃ sz x φ1, z = .optr sz x ∧ Moved w H φ A L φL A H1 (thawV z L).2 φ1 ∧ R w (thawV z L).2 φ1 A (thawV z L).1 u ∧ RootOK H φ (thawV z L).2 φ1 a (thawV z L).1) := by
  cases a with
  | nil =>
    simp only [prepM, Option.some.injEq, Prod.mk.injEq] at hz
    obtain ⟨rfl, rfl⟩ := hz
    obtain ⟨φ1, h1, h2, h3⟩ := ioNil hd (elSh sh).length (a := .nil) ⟨none, 0, ha.nil_inv⟩ rfl
    exact .inl ⟨_, _, φ1, rfl, h1, h2, h3⟩
  | e0 =>
    simp only [prepM, Option.some.injEq, Prod.mk.injEq] at hz
    obtain ⟨rfl, rfl⟩ := hz
    obtain ⟨a0, ha0⟩ := ha.e0_inv
    obtain ⟨φ1, h1, h2, h3⟩ := ioNil hd (elSh sh).length (a := .e0) ⟨a0, 0, ha0⟩ rfl
    exact .inl ⟨_, _, φ1, rfl, h1, h2, h3⟩
  | ref id ver off len =>
    simp only [prepM] at hz
    split at hz
    · rename_i b hb
      obtain ⟨hver, _, hr⟩ := ha.ref_inv
      obtain ⟨loc, a0, cap, q1, rfl, q3, q4, q5, q6⟩ := (hr b hb).out
      split at hz
      · rename_i hl0; subst hl0
        simp only [Option.some.injEq, Prod.mk.injEq] at hz
        obtain ⟨rfl, rfl⟩ := hz
        obtain ⟨φ1, h1, h2, h3⟩ := ioNil hd (elSh sh).length (a := .ref id ver off 0) ⟨a0, cap, rfl⟩ (by simp [rootId])
        exact .inl ⟨_, _, φ1, rfl, h1, h2, h3⟩
      · rename_i hl0
        split at hz
        · rename_i hfull
          obtain ⟨rfl, hlen⟩ := hfull
          obtain ⟨e, rfl, ht⟩ := takeE_one (by simp) hz
          cases e with
          | sc => simp [takeT, plainA] at ht
          | pt es => simp [takeT] at ht
          | sl es =>
            simp only [takeT, hb] at ht
            split at ht
            · rename_i hc
              obtain ⟨c1, c2, c3⟩ := hc
              split at ht
              · rename_i ys L' hm
                simp only [Option.some.injEq, Prod.mk.injEq] at ht
                obtain ⟨rfl, rfl⟩ := ht
                left
                have hg := (Heap.blk_get hb).1
                obtain ⟨bk, hbk, hok⟩ := hd.sl.blk id _ q1
                rw [hg] at hbk
                simp only [Option.some.injEq] at hbk; subst hbk
                have hlss := Less.del H id
                have hd' : Duo w (H.del id) (restr φ (H.del id)) A L φL A := ⟨lessSt hd.sl hlss, hd.sh, fun c hc => hd.dis c (restr_ow hc), fun c hc => hd.cov c (restr_ow hc)⟩
                have hsub : subL b.el 0 len = b.el := by simp [subL, hlen]
                rw [hsub] at hm
                cases loc with
                | virt => have := hok.virt rfl; rw [this] at hlen; simp at hlen; omega
                | at_ c b0 =>
                simp only at q6
                rcases q6 with q6 | ⟨h1, h2⟩
                · omega
                obtain ⟨arr, T, fr, k1, k2, k3, k4⟩ := hok.here c b0 rfl
                let g : Nat → Nat → Value := fun i j => arr.getD (b0 + i * b.sz + j) undef
                have hrel : ∀ (i : Nat) (x : AV) (j : Nat) (y : AV), b.el[i]? = some x → x.cells[j]? = some y → R w (H.del id) (restr φ (H.del id)) A y (g i j) := by
                  intro i x j y hi hj
                  have hjl : j < b.sz := by rw [← hok.sized _ _ hi]; exact (List.getElem?_eq_some_iff.1 hj).1
                  have hle := mul_lt_le (n := b.sz) (List.getElem?_eq_some_iff.1 hi).1
                  have hlt : b0 + i * b.sz + j < arr.size := by omega
                  have : g i j = arr[b0 + i * b.sz + j] := by
                    simp only [g, Array.getD_eq_getD_getElem?, Array.getElem?_eq_getElem hlt, Option.getD_some]
                  rw [this]
                  exact ((k4 _ _ _ _ _ hi hj (Array.getElem?_eq_getElem hlt)).1).mono (lessEvo hlss)
                obtain ⟨φ1, m, l1, s1, r1⟩ := moveX (w := w) (es := es) (fun x vs L φL AL H φ AH y L1 a H1 => moveE es x vs L φL AL H φ AH y L1 a H1) _ g _ _ _ _ _ _ _ _ _ _ hd' hrel hm rfl (.inl fun _ h => h)
                have hlen2 : ∀ (i : Nat) (a : AV), (thawL ys L).1[i]? = some a → a.cells.length = b.sz := by
                  intro i a ha
                  have hil : i < b.el.length := by rw [← l1]; exact (List.getElem?_eq_some_iff.1 ha).1
                  have hxi := List.getElem?_eq_getElem hil
                  rw [s1 i _ a hxi ha]
                  exact hok.sized _ _ hxi
                have M := blkMove (off := 0) (n := len) hd hb c2 rfl q1 (fun c' b0' arr' T' fr' hl hh i j v hi hj hv => by
                  simp only [Loc.at_.injEq] at hl
                  obtain ⟨rfl, rfl⟩ := hl
                  rw [k1] at hh
                  simp only [Option.some.injEq, Obj.cells.injEq] at hh
                  obtain ⟨rfl, _, _⟩ := hh
                  simp only [Nat.zero_add] at hv
                  simp only [g, Array.getD_eq_getD_getElem?, hv, Option.getD_some]) m (by rw [l1, hlen]) hlen2 r1 true (.at_ c b0) (.inr ⟨c, b0, rfl, by simp⟩)
                rw [c1] at M
                have hgn := Heap.get_new (thawL ys L).2 es.length true (thawL ys L).1
                refine ⟨_, _, _, rfl, M, ?_, _, _, _, rfl, Heap.blk_of_get hgn, ⟨.at_ c b0, by simp⟩, fun h => by simp [rootId, hl0] at h, fun id' ver' h => ?_⟩
                · refine .ref _ _ _ _ _ (Nat.lt_succ_self _) ⟨_, _, _, rfl⟩ fun b' hb' => ?_
                  have := blk_same hgn hb'
                  subst this
                  refine ⟨.at_ c b0, a0, cap, by simp, by rw [l1, hlen], by simp, by omega, by simp only; omega, ?_⟩
                  refine Or.inr ⟨by rw [h1]; simp, ?_⟩
                  rw [c1] at h2
                  simpa using h2
                · simp only [rootId, hl0, if_false, Option.some.injEq, Prod.mk.injEq] at h
                  obtain ⟨rfl, rfl⟩ := h
                  exact ⟨b, c, b0, hb, c1.symm, l1, q1, by simp⟩
              · simp at ht
            · simp at ht
        · simp at hz
    · simp at hz
  | ptr id ver idx off =>
    simp only [prepM] at hz
    obtain ⟨e, rfl, ht⟩ := takeE_one (by simp) hz
    cases e with
    | sc => simp [takeT, plainA] at ht
    | sl es => simp [takeT] at ht
    | pt es =>
      rcases idx with _ | idx
      rotate_left
      · simp [takeT] at ht
      rcases off with _ | off
      rotate_left
      · simp [takeT] at ht
      simp only [takeT] at ht
      split at ht
      · rename_i bver sz bfix z' hb
        split at ht
        · rename_i y' L' hm
          simp only [Option.some.injEq, Prod.mk.injEq] at ht
          obtain ⟨rfl, rfl⟩ := ht
          right
          have hg := (Heap.blk_get hb).1
          obtain ⟨hver, _, hr⟩ := ha.ptr_inv
          obtain ⟨c, b0, q1, rfl⟩ := hr _ hb
          obtain ⟨bk, hbk, hok⟩ := hd.sl.blk id _ q1
          rw [hg] at hbk
          simp only [Option.some.injEq] at hbk; subst hbk
          obtain ⟨arr, T, fr, k1, k2, k3, k4⟩ := hok.here c b0 rfl
          have hlss := Less.del H id
          have hd' : Duo w (H.del id) (restr φ (H.del id)) A L φL A := ⟨lessSt hd.sl hlss, hd.sh, fun c hc => hd.dis c (restr_ow hc), fun c hc => hd.cov c (restr_ow hc)⟩
          have hzl : z'.cells.length = sz := hok.sized 0 z' rfl
          simp only [List.length_singleton, Nat.one_mul] at k3
          let vs : List Value := (arr.extract b0 (b0 + sz)).toList
          have hvs : vs.length = sz := by simp [vs]; omega
          have hvg : ∀ j u, vs[j]? = some u → arr[b0 + j]? = some u := by
            intro j u hu
            simp only [vs, Array.getElem?_toList, Array.getElem?_extract] at hu
            split at hu
            · exact hu
            · simp at hu
          obtain ⟨φ1, m, l1, r1⟩ := moveE es z' vs _ _ _ _ _ _ _ _ _ _ hd' (by rw [hvs, hzl]) (fun j c' u hj hu => ((k4 0 z' j c' u rfl hj (by simpa using hvg j u hu)).1).mono (lessEvo hlss)) hm rfl (.inl fun _ h => h)
          have M := blkMove (as := [(thawV y' L).1]) (n := 1) (off := 0) (sz := sz) (loc' := .at_ c b0) (g := fun i j => vs.getD j undef) hd hb (by simp) rfl q1 (fun c' b0' arr' T' fr' hl hh i j v hi hj hv => by
              simp only [Loc.at_.injEq] at hl
              obtain ⟨rfl, rfl⟩ := hl
              rw [k1] at hh
              simp only [Option.some.injEq, Obj.cells.injEq] at hh
              obtain ⟨rfl, _, _⟩ := hh
              have hi0 : i = 0 := by omega
              subst hi0
              simp only [Nat.zero_mul, Nat.add_zero] at hv
              have : vs[j]? = some v := by
                simp only [vs, Array.getElem?_toList, Array.getElem?_extract]
                rw [if_pos (by omega)]; exact hv
              simp [List.getD, this]) m rfl (fun i a ha => by
              cases i with
              | zero => simp at ha; subst ha; rw [l1, hzl]
              | succ i => simp at ha) (fun i a j c' ha hc => by
              cases i with
              | zero =>
                simp at ha; subst ha
                have hj : j < vs.length := by rw [hvs, ← hzl, ← l1]; exact (List.getElem?_eq_some_iff.1 hc).1
                have := r1 j c' vs[j] hc (List.getElem?_eq_getElem hj)
                simpa [List.getD, hj] using this
              | succ i => simp at ha) false (.inr ⟨c, b0, rfl, by simp⟩)
          have hgn := Heap.get_new (thawV y' L).2 sz false [(thawV y' L).1]
          refine ⟨_, _, _, rfl, M, ?_, _, _, _, rfl, Heap.blk_of_get hgn, ⟨.at_ c b0, by simp⟩, fun h => by simp [rootId] at h, fun id' ver' h => ?_⟩
          · refine .ptr _ _ _ _ _ (Nat.lt_succ_self _) ⟨_, rfl⟩ fun b' hb' => ⟨c, b0, by simp, ?_⟩
            simp
          · simp only [rootId, Option.some.injEq, Prod.mk.injEq] at h
            obtain ⟨rfl, rfl⟩ := h
            exact ⟨_, c, b0, hb, rfl, rfl, q1, by simp⟩
        · simp at ht
      · simp at ht
  | _ => simp [prepM] at hz
end duo
end Go.VS
