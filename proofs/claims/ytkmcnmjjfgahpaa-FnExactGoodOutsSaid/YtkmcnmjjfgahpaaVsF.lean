/-
  VS, part 6: the quiet operations, one by one.
-/
import Derived.Test.YtkmcnmjjfgahpaaVsE
namespace Go.VS

theorem heap_alloc_old (w : World) (o : Obj) {c : Nat} (h : c < w.heap.size) : (w.alloc o).heap[c]? = w.heap[c]? := by
  show (w.heap.push o)[c]? = _
  rw [Array.getElem?_push, if_neg (by omega)]
theorem heap_alloc_new (w : World) (o : Obj) : (w.alloc o).heap[w.heap.size]? = some o := by
  show (w.heap.push o)[w.heap.size]? = _
  simp

theorem lt_of_heap {w : World} {c : Nat} {o : Obj} (h : w.heap[c]? = some o) : c < w.heap.size := by
  rcases Nat.lt_or_ge c w.heap.size with h1 | h1
  · exact h1
  · simp [Array.getElem?_eq_none h1] at h

/-- A block of the abstract heap that has just been made in memory. -/
theorem allocOutF (fr0 : Nat × Nat) {w : World} {G : Heap} {φ : Phi} {A : Avoid} (hst : St w G φ A) {id : Nat} {b : Blk} (hg : G.get id = some b) (hφ : φ id = none) (hver : b.ver < G.st)
    (hsz : ∀ (i : Nat) (x : AV), b.el[i]? = some x → x.cells.length = b.sz) (arr : Array Value) (T : TypeId) (hlen : b.el.length * b.sz ≤ arr.size) (hfr : ∀ j, j < arr.size → ¬ (fr0.1 ≤ j ∧ j < fr0.2))
    (hcells : ∀ (i : Nat) (x : AV) (j : Nat) (y : AV) (v : Value), b.el[i]? = some x → x.cells[j]? = some y → arr[i * b.sz + j]? = some v → R w G φ A y v ∧ v.oneCell' = true) :
    Out w G φ A (w.alloc (.cells arr T fr0)) G (fun i => if i = id then some (.at_ w.heap.size 0) else φ i) (fun c => A c ∨ c = w.heap.size) := by
  have hOw : ∀ c, Ow (fun i => if i = id then some (.at_ w.heap.size 0) else φ i) c → Ow φ c ∨ c = w.heap.size := by
    rintro c ⟨i, b0, h⟩
    try simp only at h
    split at h
    · simp only [Option.some.injEq, Loc.at_.injEq] at h; exact .inr h.1.symm
    · exact .inl ⟨i, b0, h⟩
  have hpost : Post w φ (w.alloc (.cells arr T fr0)) (fun i => if i = id then some (.at_ w.heap.size 0) else φ i) := by
    refine ⟨rfl, rfl, rfl, by simp, fun c hc _ => heap_alloc_old w _ hc, fun c hc => ?_, fun c hc => ?_⟩
    · unfold bsz; rw [heap_alloc_old w _ hc]
    · rcases hOw c hc with h | h
      · exact .inl h
      · exact .inr (by omega)
  have hevo : Evo w G φ A (w.alloc (.cells arr T fr0)) G (fun i => if i = id then some (.at_ w.heap.size 0) else φ i) (fun c => A c ∨ c = w.heap.size) := by
    refine ⟨fun c a t fr hc hn => ?_, Nat.le_refl _, fun i b' hb' _ => ⟨b', hb', rfl, rfl, rfl, rfl, fun loc hl => ?_⟩, fun c hc => hpost.bsz c (Ow.lt hst hc)⟩
    · have hlt := lt_of_heap hc
      exact ⟨⟨fr, by rw [heap_alloc_old w _ hlt]; exact hc⟩, fun h => by rcases h with h | h; exact hn h; omega⟩
    · try simp only
      split
      · rename_i h; subst h; rw [hφ] at hl; simp at hl
      · exact hl
  refine ⟨⟨fun i i' c b0 b1 h1 h2 => ?_, fun c hc => ?_, fun c hc => ?_, fun i loc hl => ?_⟩, hpost, hevo, fun c hc _ => .inl hc⟩
  · try simp only at h1 h2
    split at h1
    · rename_i hi
      split at h2
      · rename_i hi'; omega
      · simp only [Option.some.injEq, Loc.at_.injEq] at h1
        have := Ow.lt hst ⟨i', b1, h2⟩
        omega
    · split at h2
      · simp only [Option.some.injEq, Loc.at_.injEq] at h2
        have := Ow.lt hst ⟨i, b0, h1⟩
        omega
      · exact hst.inj i i' c b0 b1 h1 h2
  · rcases hOw c hc with h | h
    · exact .inl (hst.own c h)
    · exact .inr h
  · simp only [World.size_alloc]
    rcases hc with h | h
    · have := hst.bnd c h; omega
    · omega
  · try simp only at hl
    split at hl
    · rename_i hi; subst hi
      simp only [Option.some.injEq] at hl; subst hl
      refine ⟨b, hg, hver, hsz, by simp, fun c b0 h => ?_⟩
      simp only [Loc.at_.injEq] at h
      obtain ⟨rfl, rfl⟩ := h
      refine ⟨arr, T, fr0, heap_alloc_new w _, hfr, by omega, fun i x j y v hx hy hv => ?_⟩
      obtain ⟨h1, h2⟩ := hcells i x j y v hx hy (by simpa using hv)
      exact ⟨h1.mono hevo, h2⟩
    · obtain ⟨b', hg', hb'⟩ := hst.blk i loc hl
      refine ⟨b', hg', hb'.ver, hb'.sized, hb'.virt, fun c b0 h => ?_⟩
      obtain ⟨a, t, fr, h1, h2, h3, h4⟩ := hb'.here c b0 h
      exact ⟨a, t, fr, by rw [heap_alloc_old w _ (lt_of_heap h1)]; exact h1, h2, h3, fun i x j y v hx hy hv => ⟨(h4 i x j y v hx hy hv).1.mono hevo, (h4 i x j y v hx hy hv).2⟩⟩

theorem allocOut {w : World} {G : Heap} {φ : Phi} {A : Avoid} (hst : St w G φ A) {id : Nat} {b : Blk} (hg : G.get id = some b) (hφ : φ id = none) (hver : b.ver < G.st)
    (hsz : ∀ (i : Nat) (x : AV), b.el[i]? = some x → x.cells.length = b.sz) (arr : Array Value) (T : TypeId) (hlen : b.el.length * b.sz ≤ arr.size)
    (hcells : ∀ (i : Nat) (x : AV) (j : Nat) (y : AV) (v : Value), b.el[i]? = some x → x.cells[j]? = some y → arr[i * b.sz + j]? = some v → R w G φ A y v ∧ v.oneCell' = true) :
    Out w G φ A (w.alloc (.cells arr T)) G (fun i => if i = id then some (.at_ w.heap.size 0) else φ i) (fun c => A c ∨ c = w.heap.size) :=
  allocOutF (0, 0) hst hg hφ hver hsz arr T hlen (fun j _ h => absurd h.2 (Nat.not_lt_zero j)) hcells

/-- Where a new block's address reads. -/
theorem ptr_new {w : World} {G : Heap} {φ : Phi} {A : Avoid} {id ver c : Nat} (hv : ver < G.st) (hφ : φ id = some (.at_ c 0)) : R w G φ A (.ptr id ver 0 0) (.pointer (some ⟨c, 0, none⟩)) :=
  .ptr _ _ _ _ _ hv ⟨_, rfl⟩ fun b _ => ⟨c, 0, hφ, by simp⟩

section ops
variable {P : Program} {E : TEnv} (hE : ∀ t ti, E t = some ti → TyOK P t ti)
variable {w : World} {G : Heap} {φ : Phi} {A : Avoid} (hst : St w G φ A) {H H' : Heap} (hX : Ext H' G) (hnew : ∀ id, H.bs.length ≤ id → φ id = none)

theorem quiet_val {r : Result Next} {s : Sem Value} {x : AV} (hst : St w G φ A) (hr : r = (do pure (.value (← s)) : Sem Next).run P w) (h : ∃ v, s.run P w = .ok v w ∧ R w G φ A x v) : QRes w G φ A H H' r x := by
  obtain ⟨v, hv, hx⟩ := h
  exact QRes.val hst (by rw [hr]; simp [hv]) hx

theorem run_indexAddr_slice {t e : TypeId} {ti te : TI} (ht : TyOK P t ti) (hte : TyOK P e te) (hu : ti.und = .sl e) {k : IntKind} {n : Int} {c o len cap : Nat} (h0 : 0 ≤ n) (h1 : n < len) :
    (Instr.indexAt t (.slice (some ⟨c, o, none⟩) len cap) (.int k n)).run P w = .ok (.pointer (some ⟨c, o + n.toNat * te.sz, none⟩)) w := by
  unfold Instr.indexAt
  simp only [asIntOf, Sem.run_bind, Sem.run_pure, Result.andThen_ok, ht.sl w hu]
  simp [h0, h1, hte.sizeOf, add_none]

theorem run_indexAddr_arr {t e : TypeId} {ti te : TI} (ht : TyOK P t ti) (hte : TyOK P e te) {m : Nat} (hu : ti.und = .ar m e) {k : IntKind} {n : Int} {c o : Nat} (h0 : 0 ≤ n) (h1 : n < m) :
    (Instr.indexAt t (.pointer (some ⟨c, o, none⟩)) (.int k n)).run P w = .ok (.pointer (some ⟨c, o + n.toNat * te.sz, none⟩)) w := by
  unfold Instr.indexAt
  simp only [asIntOf, Sem.run_bind, Sem.run_pure, Result.andThen_ok, ht.und_ar w hu, Instr.sureAddr]
  simp [h0, h1, hte.sizeOf, add_none]

theorem run_fieldAddr {t ft : TypeId} {ti tf : TI} (ht : TyOK P t ti) {fs : List (Nat × TypeId)} (hu : ti.und = .st fs) {f o : Nat} (hf : fs[f]? = some (o, ft)) (htf : TyOK P ft tf) (hz : tf.sz ≠ 0) {c p : Nat} :
    (Instr.fieldAt t (.pointer (some ⟨c, p, none⟩)) f).run P w = .ok (.pointer (some ⟨c, p + o, none⟩)) w := by
  unfold Instr.fieldAt
  obtain ⟨gs, hg, hfs, _⟩ := ht.und_st w hu
  simp only [Sem.run_bind, hg, Result.andThen_ok]
  rw [hfs] at hf
  simp only [List.getElem?_map, Option.map_eq_some_iff, Prod.mk.injEq] at hf
  obtain ⟨g, hg1, hg2, hg3⟩ := hf
  have hg1' : gs[f]? = some g := by simpa using hg1
  simp only [hg1', Sem.run_bind, Instr.sureAddr, Sem.run_pure, Result.andThen_ok, fieldPlace, hg3, htf.sizeOf, hz, if_false, hg2, add_none]

theorem fe_inv {x : AV} {off : Nat} {v : Value} {A : Avoid} (h : FR w A (.fe x off) v) : ∃ c o arr T fr, v = .pointer (some ⟨c, o + off, none⟩) ∧ w.heap[c]? = some (.cells arr T fr) ∧ ¬ A c ∧ o + x.cells.length ≤ arr.size ∧
    (∀ (j : Nat) (v : Value), j < x.cells.length → arr[o + j]? = some v → v.oneCell' = true) ∧ (∀ (j : Nat) (y : AV) (v : Value), x.cells[j]? = some y → arr[o + j]? = some v → FR w A y v) := by
  cases h with
  | fe _ _ c o arr T fr h1 h2 h3 h4 h5 => exact ⟨c, o, arr, T, fr, rfl, h1, h2, h3, h4, h5⟩

theorem fe_mk {x : AV} {off c o : Nat} {arr : Array Value} {T : TypeId} {fr : Nat × Nat} {A : Avoid} (h1 : w.heap[c]? = some (.cells arr T fr)) (h2 : ¬ A c) (h3 : o + x.cells.length ≤ arr.size)
    (h4 : ∀ (j : Nat) (v : Value), j < x.cells.length → arr[o + j]? = some v → v.oneCell' = true) (h5 : ∀ (j : Nat) (y : AV) (v : Value), x.cells[j]? = some y → arr[o + j]? = some v → FR w A y v) :
    FR w A (.fe x off) (.pointer (some ⟨c, o + off, none⟩)) := .fe x off c o arr T fr h1 h2 h3 h4 h5

include hE in
theorem q_fieldAddr {H0 : Heap} (hX : Ext H0 G) {t : TypeId} {x : AV} {a : Value} {f : Nat} {z : AV} (hx : R w G φ A x a)
    (h : (match E t with
      | some ti => match ti.und with
        | .st fs => match fs[f]? with
          | some (o, ft) => match E ft with
            | some tf => if tf.sz = 0 then none else match (generalizing := false) x with
              | .ptr id ver idx off => match H0.blk id ver with
                | some _ => some (.ptr id ver idx (off + o), H0)
                | none => none
              | .fe y off => some (.fe y (off + o), H0)
              | _ => none
            | none => none
          | none => none
        | _ => none
      | none => none) = some (z, H')) : ∃ v, (Instr.fieldAt t a f).run P w = .ok v w ∧ R w G φ A z v := by
  cases h1 : E t with
  | none => simp [h1] at h
  | some ti =>
    simp only [h1] at h
    split at h
    · rename_i fs hu
      split at h
      · rename_i o ft hf
        cases h2 : E ft with
        | none => simp [h2] at h
        | some tf =>
          simp only [h2] at h
          split at h
          · simp at h
          · rename_i hz
            split at h
            · rename_i id ver idx off
              split at h
              · rename_i b hb
                simp only [Option.some.injEq, Prod.mk.injEq] at h
                obtain ⟨rfl, rfl⟩ := h
                obtain ⟨hv, _, hp⟩ := hx.ptr_inv
                obtain ⟨c, b0, hφ, rfl⟩ := hp b (hX.blk hb)
                refine ⟨_, run_fieldAddr (hE _ _ h1) hu hf (hE _ _ h2) hz, .ptr _ _ _ _ _ hv ⟨_, rfl⟩ fun b' hb' => ⟨c, b0, hφ, ?_⟩⟩
                rw [hX.blk hb] at hb'
                simp only [Option.some.injEq] at hb'; subst hb'
                rw [Nat.add_assoc]
              · simp at h
            · rename_i y off
              simp only [Option.some.injEq, Prod.mk.injEq] at h
              obtain ⟨rfl, rfl⟩ := h
              obtain ⟨c, p, arr, T, fr, rfl, k1, k2, k3, k4, k5⟩ := fe_inv hx.fe_inv
              refine ⟨_, run_fieldAddr (hE _ _ h1) hu hf (hE _ _ h2) hz, .fr _ _ ?_⟩
              rw [Nat.add_assoc]
              exact fe_mk k1 k2 k3 k4 k5
            · simp at h
      · simp at h
    · simp at h

theorem equalIn_nil1 {t e : TypeId} (h : (underlying t).run P w = .ok (.slice e) w) (d : Nat) : (Op.equalIn (d + 1) t (.slice none 0 0) (.slice none 0 0)).run P w = .ok true w := by
  simp [Op.equalIn, h]
theorem equalIn_nil2 {t e : TypeId} {a : Addr} {l c : Nat} (h : (underlying t).run P w = .ok (.slice e) w) (d : Nat) : (Op.equalIn (d + 1) t (.slice (some a) l c) (.slice none 0 0)).run P w = .ok false w := by
  simp [Op.equalIn, h]
theorem equalIn_noerr {t : TypeId} {ms : Array (String × TypeId)} (h : (underlying t).run P w = .ok (.interface ms) w) (d : Nat) : (Op.equalIn (d + 1) t .nilIface .nilIface).run P w = .ok true w := by
  simp [Op.equalIn, h]
theorem equalIn_err {t t' : TypeId} {u : Value} {ms : Array (String × TypeId)} (h : (underlying t).run P w = .ok (.interface ms) w) (d : Nat) : (Op.equalIn (d + 1) t (.iface t' u) .nilIface).run P w = .ok false w := by
  simp [Op.equalIn, h]
theorem equalIn_bool {t : TypeId} {a b : Bool} (h : (underlying t).run P w = .ok .bool w) (d : Nat) : (Op.equalIn (d + 1) t (.bool a) (.bool b)).run P w = .ok (a == b) w := by
  simp [Op.equalIn, h]
theorem equal_def (t : TypeId) (a b : Value) : Op.equal t a b = Op.equalIn (9999 + 1) t a b := rfl

theorem bin_nil {t : TypeId} {ti : TI} (ht : TyOK P t ti) {op : BinOp} {x y z : AV} {a b : Value} (hx : R w G φ A x a) (hy : R w G φ A y b) {r : Bool} (h : isNil ti.und x y = some r) (ox oy : Operand) (hc : (∃ u, oy = .const u) ∨ ∀ e, y ≠ .errv e)
    (hop : (op = .eql ∧ z = .bool r) ∨ (op = .neq ∧ z = .bool (!r))) :
    ∃ v, (do eqGuard op t ox oy a b; binOp op t a b : Sem Value).run P w = .ok v w ∧ R w G φ A z v := by
  have key : (eqGuard op t ox oy a b).run P w = .ok () w ∧ (Op.equal t a b).run P w = .ok r w ∧ (∀ f : BinOp → Value → Value → Sem Value, True) ∧
      (binOp .eql t a b = do pure (.bool (← Op.equal t a b))) ∧ (binOp .neq t a b = do pure (.bool (!(← Op.equal t a b)))) := by
    unfold isNil at h
    split at h
    · rename_i e hu
      have e1 := hx.nil_inv; have e2 := hy.nil_inv; subst e1; subst e2
      simp only [Option.some.injEq] at h; subst h
      refine ⟨eqGuard_plain P w _ _ _ _ _ _ (by simp) rfl, ?_, fun _ => trivial, rfl, rfl⟩
      exact equalIn_nil1 (ht.sl w hu) 9999
    · rename_i e y ys hu
      have e2 := hy.nil_inv; subst e2
      simp only [Option.some.injEq] at h; subst h
      have hf := hx.fz_inv
      cases hf with
      | fz _ c off cap n arr T fr =>
        refine ⟨eqGuard_plain P w _ _ _ _ _ _ (by simp) rfl, ?_, fun _ => trivial, rfl, rfl⟩
        exact equalIn_nil2 (ht.sl w hu) 9999
    · rename_i b hu
      simp only [Option.some.injEq] at h; subst h
      rcases hy.errv_inv with ⟨_, rfl⟩ | ⟨hb, _⟩
      · obtain ⟨ms, hms⟩ := ht.und_ifc w hu
        rcases hx.errv_inv with ⟨rfl, rfl⟩ | ⟨rfl, t', u, rfl⟩
        · rcases hc with ⟨u, rfl⟩ | hc
          · refine ⟨?_, equalIn_noerr hms 9999, fun _ => trivial, rfl, rfl⟩
            cases op <;> cases ox <;> rfl
          · exact absurd rfl (hc _)
        · exact ⟨eqGuard_plain P w _ _ _ _ _ _ (by simp) rfl, equalIn_err hms 9999, fun _ => trivial, rfl, rfl⟩
      · simp at hb
    · simp at h
  obtain ⟨k1, k2, _, k3, k4⟩ := key
  rcases hop with ⟨rfl, rfl⟩ | ⟨rfl, rfl⟩
  · exact ⟨_, by simp [k1, k3, k2], .fr _ _ (.bool _)⟩
  · exact ⟨_, by simp [k1, k4, k2], .fr _ _ (.bool _)⟩

set_option maxHeartbeats 1000000 in
include hE in
theorem bin_ok {op : BinOp} {t : TypeId} {x y z : AV} {a b : Value} (hx : R w G φ A x a) (hy : R w G φ A y b) (ox oy : Operand) (hc : (∃ u, oy = .const u) ∨ ∀ e, y ≠ .errv e) (h : binA E op t x y = some z) :
    ∃ v, (do eqGuard op t ox oy a b; binOp op t a b : Sem Value).run P w = .ok v w ∧ R w G φ A z v := by
  have lift : ∀ {v : Value}, FR w (fun _ => False) z v → FR w A z v ∨ True := fun _ => .inr trivial
  have shr : ∀ {z : AV} {v : Value}, FR w (fun _ => False) z v → (∃ k n, z = .int k n) ∨ (∃ b, z = .bool b) ∨ (∃ s, z = .str s) → R w G φ A z v := by
    intro z v hf hz
    rcases hz with ⟨k, n, rfl⟩ | ⟨b, rfl⟩ | ⟨s, rfl⟩
    · cases hf; exact .fr _ _ (.int _ _)
    · cases hf; exact .fr _ _ (.bool _)
    · cases hf; exact .fr _ _ (.str _)
  clear lift
  cases x with
  | int k n =>
    cases y with
    | int k2 n2 =>
      have e1 := hx.int_inv; have e2 := hy.int_inv; subst e1; subst e2
      obtain ⟨v, hv, hr⟩ := bin_int P w h
      refine ⟨v, by simp [eqGuard_plain P w op t ox oy (.int k n) (.int k2 n2) (by simp) rfl, hv], shr hr ?_⟩
      unfold binA at h
      have : ∀ op, (if k = k2 then intBin op k n n2 else none) = some z → (∃ k n, z = .int k n) ∨ (∃ b, z = .bool b) ∨ (∃ s, z = .str s) := by
        intro op h
        split at h
        · cases op <;> simp only [intBin, Option.some.injEq, reduceCtorEq] at h <;> first
            | (subst h; first | exact .inl ⟨_, _, rfl⟩ | exact .inr (.inl ⟨_, rfl⟩))
            | (split at h; · (simp at h)
               · simp only [Option.some.injEq] at h; subst h; exact .inl ⟨_, _, rfl⟩)
        · simp at h
      cases op <;> simp only at h <;> first
        | exact this _ h
        | (split at h; · (simp at h)
           · simp only [Option.some.injEq] at h; subst h; exact .inl ⟨_, _, rfl⟩)
    | _ =>
      simp only [binA] at h
      cases he : E t with
      | none => simp [he] at h
      | some ti => simp only [he] at h; cases op <;> simp [isNil] at h
  | str l =>
    cases y with
    | str l2 =>
      obtain ⟨s, rfl, rfl⟩ := hx.str_inv
      obtain ⟨s2, rfl, rfl⟩ := hy.str_inv
      simp only [binA] at h
      obtain ⟨v, hv, hr⟩ := bin_str P w (t := t) h
      refine ⟨v, by simp [eqGuard_plain P w op t ox oy (.string s) (.string s2) (by simp) rfl, hv], shr hr ?_⟩
      cases op <;> simp only [strBin, Option.some.injEq, reduceCtorEq] at h <;> first
        | (subst h; exact .inr (.inl ⟨_, rfl⟩))
        | (split at h
           · simp only [Option.some.injEq] at h; subst h; exact .inr (.inr ⟨_, rfl⟩)
           · simp at h)
    | _ =>
      simp only [binA] at h
      cases he : E t with
      | none => simp [he] at h
      | some ti => simp only [he] at h; cases op <;> simp [isNil] at h
  | bool p =>
    cases y with
    | bool q =>
      have e1 := hx.bool_inv; have e2 := hy.bool_inv; subst e1; subst e2
      simp only [binA] at h
      cases he : E t with
      | none => simp [he] at h
      | some ti =>
        simp only [he] at h
        split at h
        · rename_i hu
          simp only [Option.some.injEq] at h; subst h
          have := equalIn_bool (a := p) (b := q) ((hE _ _ he).und_bl w hu) 9999
          exact ⟨.bool (p == q), by simp [eqGuard_plain P w _ t ox oy (.bool p) (.bool q) (by simp) rfl, binOp, equal_def, this], .fr _ _ (.bool _)⟩
        · rename_i hu
          simp only [Option.some.injEq] at h; subst h
          have := equalIn_bool (a := p) (b := q) ((hE _ _ he).und_bl w hu) 9999
          exact ⟨.bool (!(p == q)), by simp [eqGuard_plain P w _ t ox oy (.bool p) (.bool q) (by simp) rfl, binOp, equal_def, this], .fr _ _ (.bool _)⟩
        · simp at h
    | _ =>
      simp only [binA] at h
      cases he : E t with
      | none => simp [he] at h
      | some ti => simp only [he] at h; cases op <;> simp [isNil] at h
  | agg xs =>
    cases y with
    | agg ys =>
      obtain ⟨vs, rfl, hlx, hox, hpx⟩ := hx.agg_inv
      obtain ⟨us, rfl, hly, hoy, hpy⟩ := hy.agg_inv
      have nag : ∀ {ws : Array Value}, (∀ (j : Nat) (v : Value), ws[j]? = some v → v.oneCell' = true) → ∀ (j : Nat) (v : Value), (Value.agg ws).cells[j]? = some v → isAggV v = false := by
        intro ws hw j v hv
        have := hw j v hv
        cases v <;> first | rfl | simp [Value.oneCell'] at this
      simp only [binA] at h
      cases he : E t with
      | none => simp [he] at h
      | some ti =>
      simp only [he] at h
      by_cases hag0 : ti.agg = false
      · simp [hag0] at h
      have hag : ti.agg = true := by simpa using hag0
      simp only [hag, if_true] at h
      have main : ∀ r, eqT E 8 t xs ys = some r → (eqGuard op t ox oy (.agg vs) (.agg us)).run P w = .ok () w ∧ (Op.equalIn 10000 t (.agg vs) (.agg us)).run P w = .ok r w := by
        intro r hr
        have hT := hE _ _ he
        have hok : ti.eqok = true := by
          obtain ⟨i0, d0, z0, _, _, _, _, _, _, hagd, _, _, _, hud, _⟩ := hT.out
          rw [hag] at hagd
          have hr0 := hr
          simp only [eqT, he] at hr0
          rw [← hud] at hr0
          cases d0 with
          | struct gs =>
            simp only [udOf] at hr0
            split at hr0
            · rename_i heq; split at heq <;> simp at heq
            · rename_i heq; split at heq <;> simp at heq
            · rename_i heq; split at heq <;> simp at heq
            · split at hr0
              · assumption
              · simp at hr0
            · simp at hr0
          | array n e => simp [udOf] at hr0
          | _ => simp [isAggD] at hagd
        obtain ⟨i0, d0, z0, _, _, _, _, _, _, _, _, _, _, _, heq⟩ := hT.out
        refine ⟨run_eqGuard_agg w op t ox oy vs us (heq hok).2, ?_⟩
        refine eqT_ok (w0 := w) (H := G) (φ := φ) (A := A) hE 8 t ti xs ys r he hr 10000 (by omega) _ _ ?_ ?_ (nag hox) (nag hoy)
        · rw [hag]; exact ⟨hlx, rfl, hpx⟩
        · rw [hag]; exact ⟨hly, rfl, hpy⟩
      cases op <;> simp only [reduceCtorEq] at h
      case eql =>
        split at h
        · rename_i r hr
          simp only [Option.some.injEq] at h; subst h
          obtain ⟨m1, m2⟩ := main r hr
          exact ⟨.bool r, by simp only [Sem.run_bind, m1, Result.andThen_ok]; rw [run_eql_struct, m2]; rfl, .fr _ _ (.bool _)⟩
        · simp at h
      case neq =>
        split at h
        · rename_i r hr
          simp only [Option.some.injEq] at h; subst h
          obtain ⟨m1, m2⟩ := main r hr
          exact ⟨.bool (!r), by simp only [Sem.run_bind, m1, Result.andThen_ok]; rw [run_neq_struct, m2]; rfl, .fr _ _ (.bool _)⟩
        · simp at h
    | _ =>
      simp only [binA] at h
      cases he : E t with
      | none => simp [he] at h
      | some ti => simp only [he] at h; cases op <;> simp [isNil] at h
  | _ =>
    simp only [binA] at h
    cases he : E t with
    | none => simp [he] at h
    | some ti =>
      simp only [he] at h
      cases op <;> simp only [reduceCtorEq] at h
      case eql =>
        split at h
        · rename_i r hr
          simp only [Option.some.injEq] at h; subst h
          refine bin_nil (hE _ _ he) hx hy hr ox oy hc (.inl ⟨rfl, rfl⟩)
        · simp at h
      case neq =>
        split at h
        · rename_i r hr
          simp only [Option.some.injEq] at h; subst h
          refine bin_nil (hE _ _ he) hx hy hr ox oy hc (.inr ⟨rfl, rfl⟩)
        · simp at h
end ops

end Go.VS
