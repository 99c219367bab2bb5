/-
  VS, part 31: the code.
-/
import Derived.Test.YtkmcnmjjfgahpaaVtD
import Derived.Tactics
namespace Go.VS

theorem SF.kill {w : World} {H : Heap} {φ : Phi} {A : Avoid} {s : Frm} {a : Act} (h : SF w H φ A s a) (l : List Nat) : SF w H φ A (killF l s) a := by
  have key : ∀ (s : Frm) (i : Nat), (killF.go l i s).length = s.length ∧ ∀ (t : Nat) (x : AV), (killF.go l i s)[t]? = some x → x = .undef ∨ s[t]? = some x := by
    intro s
    induction s with
    | nil => intro i; simp [killF.go]
    | cons y s ih =>
      intro i
      obtain ⟨h1, h2⟩ := ih (i + 1)
      refine ⟨by simp [killF.go, h1], fun t x hx => ?_⟩
      cases t with
      | zero =>
        simp only [killF.go, List.getElem?_cons_zero, Option.some.injEq] at hx
        split at hx
        · exact .inr (by simp [hx])
        · exact .inl hx.symm
      | succ t => simp only [killF.go, List.getElem?_cons_succ] at hx ⊢; exact h2 t x hx
  obtain ⟨h1, h2⟩ := key s 0
  refine ⟨h1.trans h.len, fun t x v hx hv => ?_, h.dfr⟩
  rcases h2 t x hx with rfl | hx
  · exact .fr _ _ (.undef _)
  · exact h.val t x v hx hv

theorem trimOut {w : World} {H : Heap} {φ : Phi} {A : Avoid} (hst : St w H φ A) (n : Nat) : Out w H φ A w (H.trim n) (restr φ (H.trim n)) A := by
  have hg : ∀ id b, (H.trim n).get id = some b → H.get id = some b := by
    intro id b h
    unfold Heap.trim Heap.get at h
    unfold Heap.get
    simp only [List.getElem?_take] at h
    split at h
    · exact h
    · simp at h
  have hevo : Evo w H φ A w (H.trim n) (restr φ (H.trim n)) A :=
    ⟨fun c arr T fr hc hn => ⟨⟨fr, hc⟩, hn⟩, Nat.le_refl _, fun id b hb _ => ⟨b, hg id b hb, rfl, rfl, rfl, rfl, fun loc hl => by simp [restr, hb, hl]⟩, fun _ _ => rfl⟩
  refine ⟨⟨fun i i' c b b' h h' => hst.inj _ _ _ _ _ (restr_some h).1 (restr_some h').1, fun c hc => hst.own c (restr_ow hc), hst.bnd, fun id loc h => ?_⟩, ⟨rfl, rfl, rfl, Nat.le_refl _, fun _ _ _ => rfl, fun _ _ => rfl, fun c hc => .inl (restr_ow hc)⟩, hevo, fun c hc _ => hc⟩
  obtain ⟨h1, b, hb⟩ := restr_some h
  obtain ⟨b', hb', hok⟩ := hst.blk id loc h1
  rw [hg id b hb] at hb'
  simp only [Option.some.injEq] at hb'; subst hb'
  refine ⟨b, hb, hok.ver, hok.sized, hok.virt, fun c b0 he => ?_⟩
  obtain ⟨arr, T, fr, k1, k2, k3, k4⟩ := hok.here c b0 he
  exact ⟨arr, T, fr, k1, k2, k3, fun i x j y v hx hy hv => ⟨(k4 i x j y v hx hy hv).1.mono hevo, (k4 i x j y v hx hy hv).2⟩⟩

def exOf : Ex → Exit
  | .normal => .normal
  | .exit id => .exit id
  | .ret => .ret

theorem sameRef_eq {x y : AV} (h : sameRef x y = true) : x = y := by
  unfold sameRef at h
  split at h
  · simp only [Bool.and_eq_true, beq_iff_eq] at h; obtain ⟨⟨⟨rfl, rfl⟩, rfl⟩, rfl⟩ := h; rfl
  · rfl
  · rfl
  · simp at h

theorem frzOne {w : World} {H : Heap} {φ : Phi} {A : Avoid} {s : Frm} {a : Act} (hst : St w H φ A) (hs : SF w H φ A s a) {t : Nat} {ts : List Nat} {sh : List Sh} {y : AV} {H1 : Heap} (h : takeE sh (s.getD t .undef) H = some (y, H1)) :
    Out w H φ A w H1 (restr φ H1) (gone φ A H1) ∧ SF w H1 (restr φ H1) (gone φ A H1) (setSame (s.getD t .undef) (frzV y) ts (s.set t (frzV y))) a := by
  have hl := takeE_less _ _ _ _ _ h
  have hevo : Evo w H φ A w H1 (restr φ H1) (gone φ A H1) := by
    have e := lessEvo (w := w) (φ := φ) (A := A) hl
    exact ⟨fun c arr T fr hc hn => ⟨(e.fz c arr T fr hc hn).1, fun h2 => hn h2.1⟩, e.st, e.ids, e.sz⟩
  refine ⟨⟨(lessSt hst hl).shrink (fun c hc => hc.1) (fun c hc => ⟨hst.own c (restr_ow hc), fun _ => hc⟩), ⟨rfl, rfl, rfl, Nat.le_refl _, fun _ _ _ => rfl, fun _ _ => rfl, fun c hc => .inl (restr_ow hc)⟩, hevo, fun c hc hn => ⟨hc, fun ho => absurd ho hn⟩⟩, ?_⟩
  have hs1 := hs.mono hevo
  -- each slot with the same value
  have one : ∀ (k : Nat) (v : Value), s.getD k .undef = s.getD t .undef → a.tmps[k]? = some v → R w H1 (restr φ H1) (gone φ A H1) (frzV y) v := by
    intro k v hk hv
    have hr := hs.ev (.tmp k)
    simp only [ev, Act.eval] at hr
    rw [Array.getD_eq_getD_getElem?, hv, hk] at hr
    exact .fr _ _ (frzWhole hst hr h (fun c hc => hc))
  have base : SF w H1 (restr φ H1) (gone φ A H1) (s.set t (frzV y)) a ∧ ∀ k, (s.set t (frzV y)).getD k .undef = frzV y ∨ (s.set t (frzV y)).getD k .undef = s.getD k .undef := by
    refine ⟨⟨by simpa using hs1.len, fun k x v hx hv => ?_, hs1.dfr⟩, fun k => ?_⟩
    · rw [List.getElem?_set] at hx
      split at hx
      · rename_i hk
        subst hk
        split at hx
        · simp only [Option.some.injEq] at hx; subst hx
          exact one t v rfl hv
        · simp at hx
      · exact hs1.val k x v hx hv
    · simp only [List.getD_eq_getElem?_getD, List.getElem?_set]
      split
      · rename_i hk; subst hk
        split
        · exact .inl rfl
        · rename_i hlt
          right
          rw [List.getElem?_eq_none (by omega)]
      · exact .inr rfl
  have gen : ∀ (ts : List Nat) (s' : Frm), SF w H1 (restr φ H1) (gone φ A H1) s' a → (∀ k, sameRef (s'.getD k .undef) (s.getD t .undef) = true → s.getD k .undef = s.getD t .undef ∨ frzV y = s.getD t .undef) → SF w H1 (restr φ H1) (gone φ A H1) (setSame (s.getD t .undef) (frzV y) ts s') a := by
    intro ts
    induction ts with
    | nil => intro s' h _; exact h
    | cons k ks ih =>
      intro s' h1 h2
      simp only [setSame]
      split
      · rename_i hsame
        have hval : ∀ v, a.tmps[k]? = some v → R w H1 (restr φ H1) (gone φ A H1) (frzV y) v := by
          intro v hv
          rcases h2 k hsame with e | e
          · exact one k v e hv
          · have := h1.ev (.tmp k)
            simp only [ev, Act.eval] at this
            rw [Array.getD_eq_getD_getElem?, hv, sameRef_eq hsame, ← e] at this
            exact this
        refine ih _ ⟨by simpa using h1.len, fun m x v hx hv => ?_, h1.dfr⟩ (fun m hm => ?_)
        · rw [List.getElem?_set] at hx
          split at hx
          · rename_i hk; subst hk
            split at hx
            · simp only [Option.some.injEq] at hx; subst hx; exact hval v hv
            · simp at hx
          · exact h1.val m x v hx hv
        · simp only [List.getD_eq_getElem?_getD, List.getElem?_set] at hm
          split at hm
          · split at hm
            · exact .inr (sameRef_eq hm)
            · rename_i hk hlt
              refine h2 m ?_
              subst hk
              rw [List.getD_eq_getElem?_getD, List.getElem?_eq_none (by omega)]
              exact hm
          · exact h2 m (by rw [List.getD_eq_getElem?_getD]; exact hm)
      · exact ih s' h1 h2
  refine gen ts _ base.1 fun k hk => ?_
  rcases base.2 k with e | e
  · rw [e] at hk; exact .inr (sameRef_eq hk)
  · rw [e] at hk; exact .inl (sameRef_eq hk)

theorem wk1_ok {w : World} {H : Heap} {φ : Phi} {A : Avoid} {x : AV} {v : Value} (h : R w H φ A x v) : R w H φ A (wk1 x) v := by
  cases x with
  | nil => have := h.nil_inv; subst this; exact .fr _ _ (.fz0 none 0)
  | e0 => obtain ⟨a, rfl⟩ := h.e0_inv; exact .fr _ _ (.fz0 a 0)
  | _ => exact h
theorem wkA_ok {w : World} {H : Heap} {φ : Phi} {A : Avoid} {x : AV} {v : Value} (h : R w H φ A x v) : R w H φ A (wkA x) v := by
  cases x with
  | agg cs =>
    obtain ⟨vs, rfl, h1, h2, h3⟩ := h.agg_inv
    refine .agg _ _ (by simpa using h1) h2 fun i x v hx hv => ?_
    simp only [List.getElem?_map, Option.map_eq_some_iff] at hx
    obtain ⟨y, hy, rfl⟩ := hx
    exact wk1_ok (h3 i y v hy hv)
  | _ => exact wk1_ok h
theorem wk1_cells (x : AV) (hx : ∀ cs, x ≠ .agg cs) (hu : x ≠ .undef) : x.cells = [x] ∧ (wk1 x).cells = [wk1 x] := by
  cases x <;> first | exact ⟨rfl, rfl⟩ | exact absurd rfl hu | exact absurd rfl (hx _)
theorem wkSlot_ok {w : World} {H : Heap} {φ : Phi} {A : Avoid} {s : Frm} {a : Act} (t : Nat) (hst : St w H φ A) (hs : SF w H φ A s a) : ∃ φ' A', Out w H φ A w (wkSlot t s H).2 φ' A' ∧ SF w (wkSlot t s H).2 φ' A' (wkSlot t s H).1 a := by
  have plain : ∀ v, s.getD t .undef = v → SF w H φ A (s.set t (wkA v)) a := by
    intro v hv
    refine ⟨by simpa using hs.len, fun k x u hx hu => ?_, hs.dfr⟩
    rw [List.getElem?_set] at hx
    split at hx
    · rename_i hk; subst hk
      split at hx
      · simp only [Option.some.injEq] at hx; subst hx
        have hr := hs.ev (.tmp t)
        simp only [ev, Act.eval] at hr
        rw [Array.getD_eq_getD_getElem?, hu, hv] at hr
        exact wkA_ok hr
      · simp at hx
    · exact hs.val k x u hx hu
  have key : ∀ v, s.getD t .undef = v → ∃ φ' A', Out w H φ A w (match v with
      | .ref id ver _ _ => match H.blk id ver with
        | some b => (s, H.upd id { b with el := b.el.map wkA })
        | none => (s, H)
      | v => (s.set t (wkA v), H)).2 φ' A' ∧ SF w (match v with
      | .ref id ver _ _ => match H.blk id ver with
        | some b => (s, H.upd id { b with el := b.el.map wkA })
        | none => (s, H)
      | v => (s.set t (wkA v), H)).2 φ' A' (match v with
      | .ref id ver _ _ => match H.blk id ver with
        | some b => (s, H.upd id { b with el := b.el.map wkA })
        | none => (s, H)
      | v => (s.set t (wkA v), H)).1 a := by
    intro v hv
    cases v with
    | ref id ver off len =>
      simp only
      cases hb : H.blk id ver with
      | none => exact ⟨φ, A, .refl hst, hs⟩
      | some b =>
        simp only
        have hg := (Heap.blk_get hb).1
        have hlt := Heap.get_lt hg
        have hget : ∀ k, (H.upd id { b with el := b.el.map wkA }).get k = if k = id then some { b with el := b.el.map wkA } else H.get k := by
          intro k
          simp only [Heap.get, Heap.upd, List.getElem?_set]
          by_cases h : id = k
          · subst h; simp [hlt]
          · have h' : ¬ k = id := fun e => h e.symm
            simp [h, h']
        have hevo : Evo w H φ A w (H.upd id { b with el := b.el.map wkA }) φ A := by
          refine ⟨fun c arr T fr hc hn => ⟨⟨fr, hc⟩, hn⟩, Nat.le_refl _, fun k b' hk _ => ?_, fun _ _ => rfl⟩
          rw [hget] at hk
          split at hk
          · rename_i e; subst e
            simp only [Option.some.injEq] at hk; subst hk
            exact ⟨b, hg, rfl, rfl, rfl, by simp, fun _ h => h⟩
          · exact ⟨b', hk, rfl, rfl, rfl, rfl, fun _ h => h⟩
        have hst' : St w (H.upd id { b with el := b.el.map wkA }) φ A := by
          refine ⟨hst.inj, hst.own, hst.bnd, fun k loc hk => ?_⟩
          obtain ⟨b0, hb0, hok⟩ := hst.blk k loc hk
          by_cases h : k = id
          · subst h
            rw [hg] at hb0
            simp only [Option.some.injEq] at hb0; subst hb0
            refine ⟨{ b with el := b.el.map wkA }, by rw [hget, if_pos rfl], hok.ver, fun i x hx => ?_, fun h => by simp [hok.virt h], fun c b0 he => ?_⟩
            · simp only [List.getElem?_map, Option.map_eq_some_iff] at hx
              obtain ⟨y, hy, rfl⟩ := hx
              rw [wkA_cells, List.length_map]; exact hok.sized i y hy
            · obtain ⟨arr, T, fr, k1, k2, k3, k4⟩ := hok.here c b0 he
              refine ⟨arr, T, fr, k1, k2, by simpa using k3, fun i x j y v hx hy hv => ?_⟩
              simp only [List.getElem?_map, Option.map_eq_some_iff] at hx
              obtain ⟨x', hx', rfl⟩ := hx
              rw [wkA_cells] at hy
              simp only [List.getElem?_map, Option.map_eq_some_iff] at hy
              obtain ⟨y', hy', rfl⟩ := hy
              have := k4 i x' j y' v hx' hy' hv
              exact ⟨wk1_ok (this.1.mono hevo), this.2⟩
          · refine ⟨b0, by rw [hget, if_neg h]; exact hb0, hok.ver, hok.sized, hok.virt, fun c b1 he => ?_⟩
            obtain ⟨arr, T, fr, k1, k2, k3, k4⟩ := hok.here c b1 he
            exact ⟨arr, T, fr, k1, k2, k3, fun i x j y v hx hy hv => ⟨(k4 i x j y v hx hy hv).1.mono hevo, (k4 i x j y v hx hy hv).2⟩⟩
        exact ⟨φ, A, ⟨hst', .refl _ _, hevo, fun c hc _ => hc⟩, hs.mono hevo⟩
    | _ => exact ⟨φ, A, .refl hst, plain _ hv⟩
  unfold wkSlot
  exact key _ rfl

theorem frzSlots_ok {w : World} {a : Act} : ∀ (l : List (List Nat × List Sh)) {H : Heap} {φ : Phi} {A : Avoid} {s s' : Frm} {H' : Heap}, St w H φ A → SF w H φ A s a → frzSlots l s H = some (s', H') →
    ∃ φ' A', Out w H φ A w H' φ' A' ∧ SF w H' φ' A' s' a
  | [], H, φ, A, s, s', H', hst, hs, h => by
    simp only [frzSlots, Option.some.injEq, Prod.mk.injEq] at h
    obtain ⟨rfl, rfl⟩ := h
    exact ⟨φ, A, .refl hst, hs⟩
  | ([], sh) :: l, H, φ, A, s, s', H', hst, hs, h => by simp [frzSlots] at h
  | (t :: ts, []) :: l, H, φ, A, s, s', H', hst, hs, h => by
    simp only [frzSlots] at h
    obtain ⟨φ1, A1, h1, h2⟩ := wkSlot_ok t hst hs
    obtain ⟨φ', A', h3, h4⟩ := frzSlots_ok l h1.st h2 h
    exact ⟨φ', A', h1.trans hst h3, h4⟩
  | (t :: ts, e :: sh) :: l, H, φ, A, s, s', H', hst, hs, h => by
    simp only [frzSlots] at h
    split at h
    · rename_i y H1 hy
      obtain ⟨h1, h2⟩ := frzOne (ts := ts) hst hs hy
      obtain ⟨φ', A', h3, h4⟩ := frzSlots_ok l h1.st h2 h
      exact ⟨φ', A', h1.trans hst h3, h4⟩
    · simp at h

section code
variable {P : Program} {C : Ctx} {X : CallRel}

/-- What holds where a piece of code may end. -/
def Ends (Q : Exit → Act → World → Prop) (K : Ex → Frm → Heap → Prop) (w : World) (H : Heap) (φ : Phi) (A : Avoid) : Prop :=
  ∀ e s' H' φ' A' a' w', Out w H φ A w' H' φ' A' → SF w' H' φ' A' s' a' → K e s' H' → Q (exOf e) a' w'

theorem guard_wanted {w : World} {H : Heap} {φ : Phi} {A : Avoid} {s : Frm} {a : Act} {ops : Array Oper} {o : Oper} {b : Bool} (hs : ∀ j want t, o.guard = some (j, want) → (ops[j]?).bind (·.dst) = some t → R w H φ A (ev s (.tmp t)) (a.eval (.tmp t))) (h : guardA ops o s = some b) : Region.wanted o (yielded ops a.tmps) = b := by
  unfold guardA at h
  unfold Region.wanted
  cases hg : o.guard with
  | none => rw [hg] at h; simp at h; subst h; simp
  | some p =>
    obtain ⟨j, want⟩ := p
    rw [hg] at h
    simp only at h ⊢
    split at h
    · rename_i t ht
      have hv := hs j want t hg ht
      simp only [ev, Act.eval] at hv
      split at h
      · rename_i c hc
        rw [hc] at hv
        simp only [Option.some.injEq] at h; subst h
        have := hv.bool_inv
        have hy : yielded ops a.tmps j = some c := by
          unfold yielded
          rw [ht]
          simp only [Option.bind_some]
          rw [Array.getD_eq_getD_getElem?] at this
          cases hq : a.tmps[t]? with
          | none => rw [hq] at this; simp [undef] at this
          | some v => rw [hq] at this; simp at this; subst this; rfl
        rw [hy]
        cases c <;> cases want <;> rfl
      · rename_i cs hc
        rw [hc] at hv
        simp only [Option.some.injEq] at h; subst h
        obtain ⟨vs, hv', _⟩ := hv.tup_inv
        have hy : yielded ops a.tmps j = none := by
          unfold yielded
          rw [ht]
          simp only [Option.bind_some]
          rw [Array.getD_eq_getD_getElem?] at hv'
          cases hq : a.tmps[t]? with
          | none => rfl
          | some v => rw [hq] at hv'; simp at hv'; subst hv'; rfl
        rw [hy]
        cases want <;> rfl
      · simp at h
    · simp at h

theorem listSim (hE : ∀ t ti, C.E t = some ti → TyOK P t ti) (hX : ∀ f ys H K, X f ys H K → Sim P f ys H K) {ops : Array Oper} {th : List Nat} {fz : List (Nat × List (List Nat × List Sh))} {K : Frm → Heap → Prop} {Q : Exit → Act → World → Prop} :
    ∀ (l : List Oper) (i : Nat) (s : Frm) (H : Heap) (w : World) (φ : Phi) (A : Avoid) (a : Act), wpOpsN X C ops th fz K l i s H → St w H φ A → SF w H φ A s a →
      (∀ s' H' φ' A' a' w', Out w H φ A w' H' φ' A' → SF w' H' φ' A' s' a' → K s' H' → Q .normal a' w') → wpList P ops Q l a w
  | [], i, s, H, w, φ, A, a, h, hst, hs, hq => hq s H φ A a w (.refl hst) hs h
  | o :: rest, i, s0, H0, w, φ0, A0, a, h, hst0, hs0, hq0 => by
    simp only [wpOpsN] at h
    obtain ⟨s, H, hf, h⟩ := h
    obtain ⟨φ, A, ho, hs⟩ := frzSlots_ok _ hst0 hs0 hf
    have hst := ho.st
    have hq : ∀ s' H' φ' A' a' w', Out w H φ A w' H' φ' A' → SF w' H' φ' A' s' a' → K s' H' → Q .normal a' w' := fun s' H' φ' A' a' w' k1 k2 k3 => hq0 s' H' φ' A' a' w' (ho.trans hst0 k1) k2 k3
    have next : ∀ {x : AV} {v : Value} {w' : World} {H' : Heap} {φ' : Phi} {A' : Avoid}, Out w H φ A w' H' φ' A' → R w' H' φ' A' x v → wpOpsN X C ops th fz K rest (i + 1) (setA s o.dst x) H' → wpList P ops Q rest (a.put o.dst v) w' := by
      intro x v w' H' φ' A' h1 h2 h3
      exact listSim hE hX rest (i + 1) _ H' w' φ' A' _ h3 h1.st ((hs.mono h1.evo).set o.dst h2) fun s2 H2 φ2 A2 a2 w2 k1 k2 k3 => hq s2 H2 φ2 A2 a2 w2 (h1.trans hst k1) k2 k3
    simp only [wpList]
    cases hg : o.guard with
    | none =>
      rw [hg] at h
      simp only at h
      have hw : Region.wanted o (yielded ops a.tmps) = true := by simp [Region.wanted, hg]
      rw [if_pos hw]
      exact .inl (opSim hE hX hst (fun x _ => hs.ev x) h fun x v w' H' φ' A' h1 h2 h3 => next h1 h2 h3)
    | some p =>
      rw [hg] at h
      simp only at h
      obtain ⟨v, H', h1, h2⟩ := h
      split at h1
      · rename_i b hb
        have hw := guard_wanted (fun _ _ t _ _ => hs.ev (.tmp t)) hb
        cases b with
        | true =>
          rw [if_pos hw]
          simp only [if_true] at h1
          exact .inl (opSim hE hX hst (fun x _ => hs.ev x) h1 fun x u w' H'' φ' A' k1 k2 k3 => by obtain ⟨rfl, rfl⟩ := k3; exact next k1 k2 h2)
        | false =>
          rw [if_neg (by rw [hw]; simp)]
          simp only [Bool.false_eq_true, if_false] at h1
          obtain ⟨rfl, rfl⟩ := h1
          exact next (.refl hst) (.fr _ _ (.tup [] #[] rfl (by simp))) h2
      · exact h1.elim

/-- A region whose order is open. -/
def DrawSim (P : Program) (C : Ctx) (X : CallRel) : Prop :=
  ∀ (id : Nat) (ops : Array Oper) (louds : List Nat) (th : List Nat) (s : Frm) (H : Heap) (K : Frm → Heap → Prop) (Q : Exit → Act → World → Prop) (w : World) (φ : Phi) (A : Avoid) (a : Act), drawOK ops louds = true →
    wpOpsA X C ops (fun i => !louds.contains i) (lateOf ops louds) th K ops.toList 0 s H → St w H φ A → SF w H φ A s a → (∀ s' H' φ' A' a' w', Out w H φ A w' H' φ' A' → SF w' H' φ' A' s' a' → K s' H' → Q .normal a' w') → (Code.region id ops true).wp P Q a w

theorem Ends.trans {Q : Exit → Act → World → Prop} {K : Ex → Frm → Heap → Prop} {w w1 : World} {H H1 : Heap} {φ φ1 : Phi} {A A1 : Avoid} (hst : St w H φ A) (h : Out w H φ A w1 H1 φ1 A1) (k : Ends Q K w H φ A) : Ends Q K w1 H1 φ1 A1 :=
  fun e s' H' φ' A' a' w' h1 h2 h3 => k e s' H' φ' A' a' w' (h.trans hst h1) h2 h3

theorem codeSim (hE : ∀ t ti, C.E t = some ti → TyOK P t ti) (hX : ∀ f ys H K, X f ys H K → Sim P f ys H K) (hD : DrawSim P C X) (p : FPol) :
    ∀ (c : Code) (cur : Nat) (s : Frm) (H : Heap) (K : Ex → Frm → Heap → Prop) (Q : Exit → Act → World → Prop) (w : World) (φ : Phi) (A : Avoid) (a : Act), wpC X C (annot p cur c) s H K → St w H φ A → SF w H φ A s a → Ends Q K w H φ A → c.wp P Q a w := by
  intro c
  induction c with
  | skip => intro cur s H K Q w φ A a h hst hs hq; exact wp_skip (hq .normal s H φ A a w (.refl hst) hs h)
  | ret => intro cur s H K Q w φ A a h hst hs hq; exact wp_ret (hq .ret s H φ A a w (.refl hst) hs h)
  | exit id => intro cur s H K Q w φ A a h hst hs hq; exact wp_exit (hq (.exit id) s H φ A a w (.refl hst) hs h)
  | seq x y ihx ihy =>
    intro cur s H K Q w φ A a h hst hs hq
    simp only [annot, wpC] at h
    refine wp_seq (ihx cur s H _ _ w φ A a h hst hs fun e s' H' φ' A' a' w' h1 h2 h3 => ?_)
    cases e with
    | normal => exact ihy cur s' H' K Q w' φ' A' a' h3 h1.st h2 (Ends.trans hst h1 hq)
    | exit id => exact hq (.exit id) s' H' φ' A' a' w' h1 h2 h3
    | ret => exact hq .ret s' H' φ' A' a' w' h1 h2 h3
  | cond x y z ihy ihz =>
    intro cur s H K Q w φ A a h hst hs hq
    have key : ∀ (K : Ex → Frm → Heap → Prop), wpC X C (.cond x (annot p cur y) (annot p cur z)) s H K → Ends Q K w H φ A → (Code.cond x y z).wp P Q a w := by
      intro K h hq
      simp only [wpC] at h
      split at h
      · rename_i t ht
        have hv := hs.ev x
        rw [ht] at hv
        refine wp_cond hv.bool_inv ?_
        cases t with
        | true => exact ihy cur s H K Q w φ A a h hst hs hq
        | false => exact ihz cur s H K Q w φ A a h hst hs hq
      · exact h.elim
    simp only [annot] at h
    unfold withKill at h
    split at h
    · rename_i kp _
      simp only [wpC, frzSlots] at h
      refine key _ h fun e s' H' φ' A' a' w' h1 h2 h3 => ?_
      cases e with
      | normal => exact hq .normal _ H' φ' A' a' w' h1 (h2.kill kp) h3
      | exit id => exact hq (.exit id) s' H' φ' A' a' w' h1 h2 h3
      | ret => exact hq .ret s' H' φ' A' a' w' h1 h2 h3
    · exact key K h hq
  | block id x ih =>
    intro cur s H K Q w φ A a h hst hs hq
    simp only [annot, wpC] at h
    have hkill : ∀ {w : World} {H : Heap} {φ : Phi} {A : Avoid} {s : Frm} {a : Act} (kp : Option (List Nat)), SF w H φ A s a → SF w H φ A (killB kp s) a := by
      intro w H φ A s a kp h
      cases kp with
      | none => exact h
      | some l => exact h.kill l
    refine wp_block (ih id s H _ _ w φ A a h hst hs fun e s' H' φ' A' a' w' h1 h2 h3 => ?_)
    cases e with
    | normal => exact hq .normal _ H' φ' A' a' w' h1 (hkill _ h2) h3
    | exit j =>
      simp only at h3
      simp only [exOf, Exit.inBlock]
      split at h3
      · rename_i hj
        rw [if_pos hj]
        exact hq .normal _ H' φ' A' a' w' h1 (hkill _ h2) h3
      · rename_i hj
        rw [if_neg hj]
        exact hq (.exit j) s' H' φ' A' a' w' h1 h2 h3
    | ret => exact hq .ret s' H' φ' A' a' w' h1 h2 h3
  | loop c ih =>
    intro cur s H K Q w φ A a h hst hs hq
    simp only [annot, wpC] at h
    have hnext : ∀ {w : World} {H : Heap} {φ : Phi} {A : Avoid} {s : Frm} {a : Act} (sp : LSpec) (n : Nat), St w H φ A → SF w H φ A s a → ∃ φ1, Out w H φ A w (nextL sp n s H).2 φ1 A ∧ SF w (nextL sp n s H).2 φ1 A (nextL sp n s H).1 a := by
      intro w H φ A s a sp n h1 h2
      unfold nextL
      by_cases ht : sp.trim = true
      · have ho := trimOut h1 n
        simp only [ht, if_true]
        exact ⟨_, ho, (h2.mono ho.evo).kill _⟩
      · simp only [ht]
        exact ⟨φ, .refl h1, h2.kill _⟩
    intro b k cs
    have main := h (fun s H => ∀ (w : World) (φ : Phi) (A : Avoid) (a : Act), St w H φ A → SF w H φ A s a → Ends Q K w H φ A →
      ∀ (b : Frame) (k : List Item) (cs : List Frame), ∃ e a' w', Q e a' w' ∧ Arrives P (lone (b.at a (.code c :: .inLoop c :: k)) cs w) b k cs e a' w') (fun s H hB w φ A a hst hs hq b k cs => by
        obtain ⟨e, a1, w1, hq1, harr⟩ := ih cur s H _ (Exit.then (fun a1 w1 => ∀ (b : Frame) (k : List Item) (cs : List Frame), ∃ e a' w', Q e a' w' ∧ Arrives P (lone (b.at a1 (.code c :: .inLoop c :: k)) cs w1) b k cs e a' w') Q) w φ A a hB hst hs (fun e s' H' φ' A' a' w' h1 h2 h3 => by
          cases e with
          | normal =>
            obtain ⟨φ1, k1, k2⟩ := hnext ((p.loops.lookup cur).getD {}) _ h1.st h2
            exact h3 w' φ1 A' a' k1.st k2 (Ends.trans hst (h1.trans hst k1) hq)
          | exit id => exact hq (.exit id) s' H' φ' A' a' w' h1 h2 h3
          | ret => exact hq .ret s' H' φ' A' a' w' h1 h2 h3) b (.inLoop c :: k) cs
        cases e with
        | normal =>
          obtain ⟨e₂, a₂, w₂, hq₂, harr₂⟩ := hq1 b k cs
          exact ⟨e₂, a₂, w₂, hq₂, .of_steps (Steps.trans harr (.one step_inLoop)) harr₂⟩
        | exit id => exact ⟨_, a1, w1, hq1, .pass (x := .inLoop c) rfl (fun _ _ => .inl (by simp)) harr⟩
        | goto l => exact ⟨_, a1, w1, hq1, .pass (x := .inLoop c) rfl (fun _ _ => .inl (by simp)) harr⟩
        | ret => exact ⟨_, a1, w1, hq1, .pass (x := .inLoop c) rfl (fun _ _ => .inl (by simp)) harr⟩
        | panic ch => exact ⟨_, a1, w1, hq1, .pass (x := .inLoop c) rfl (fun _ _ => .inl (by simp)) harr⟩
        | outgrown => exact ⟨_, a1, w1, hq1, .pass (x := .inLoop c) rfl (fun _ _ => .inl (by simp)) harr⟩)
    obtain ⟨φ1, k1, k2⟩ := hnext ((p.loops.lookup cur).getD {}) H.bs.length hst hs
    obtain ⟨e, a', w', hq', harr⟩ := main w φ1 A a k1.st k2 (Ends.trans hst k1 hq) b k cs
    exact ⟨e, a', w', hq', .of_steps (.one step_loop) harr⟩
  | region id ops draw =>
    intro cur s H K Q w φ A a h hst hs hq
    have key : ∀ (K : Ex → Frm → Heap → Prop), wpC X C (regOf (p.regs.lookup id) ((p.fz.lookup id).getD []) id ops draw) s H K → Ends Q K w H φ A → (Code.region id ops draw).wp P Q a w := by
      intro K h hq
      cases draw with
      | false =>
        have h' : wpOpsN X C ops (match p.regs.lookup id with | some (_, th) => th | none => []) ((p.fz.lookup id).getD []) (fun s H => K .normal s H) ops.toList 0 s H := by
          unfold regOf at h
          split at h
          · rename_i n th he; rw [he]; exact h
          · rename_i he; rw [he]; exact h
        exact wp_region_list (listSim hE hX ops.toList 0 s H w φ A a h' hst hs fun s' H' φ' A' a' w' h1 h2 h3 => hq .normal s' H' φ' A' a' w' h1 h2 h3)
      | true =>
        have h' : ∃ q th, drawOK ops q = true ∧ wpOpsA X C ops (fun i => !q.contains i) (lateOf ops q) th (fun s H => K .normal s H) ops.toList 0 s H := by
          unfold regOf at h
          split at h
          · exact ⟨_, _, h.1, h.2⟩
          · exact ⟨_, _, h.1, h.2⟩
        obtain ⟨q, th, hd, h'⟩ := h'
        exact hD id ops q th s H _ Q w φ A a hd h' hst hs fun s' H' φ' A' a' w' h1 h2 h3 => hq .normal s' H' φ' A' a' w' h1 h2 h3
    simp only [annot] at h
    unfold withFrz at h
    split at h
    · rename_i l kp _
      have hkill : ∀ {w : World} {H : Heap} {φ : Phi} {A : Avoid} {s : Frm} {a : Act} (kp : Option (List Nat)), SF w H φ A s a → SF w H φ A (killB kp s) a := by
        intro w H φ A s a kp h
        cases kp with
        | none => exact h
        | some l => exact h.kill l
      simp only [wpC] at h
      refine key _ h fun e s' H' φ' A' a' w' h1 h2 h3 => ?_
      cases e with
      | normal =>
        simp only at h3
        split at h3
        · rename_i s2 H2 hf
          obtain ⟨φ2, A2, k1, k2⟩ := frzSlots_ok l h1.st h2 hf
          exact hq .normal _ H2 φ2 A2 a' w' (h1.trans hst k1) (hkill kp k2) h3
        · exact h3.elim
      | exit id => exact hq (.exit id) s' H' φ' A' a' w' h1 h2 h3
      | ret => exact hq .ret s' H' φ' A' a' w' h1 h2 h3
    · exact key K h hq
  | _ => intro cur s H K Q w φ A a h hst hs hq; simp only [annot, wpC] at h
end code
end Go.VS
