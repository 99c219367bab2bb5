/-
  VS, part 5: the quiet operations.
-/
import Derived.Test.YtkmcnmjjfgahpaaVsD
import Derived.Laws.Strings
import Derived.Laws.StructEq
namespace Go.VS

structure Out (w : World) (G : Heap) (φ : Phi) (A : Avoid) (w' : World) (G' : Heap) (φ' : Phi) (A' : Avoid) : Prop where
  st : St w' G' φ' A'
  post : Post w φ w' φ'
  evo : Evo w G φ A w' G' φ' A'
  keep : ∀ c, A c → ¬ Ow φ c → A' c

theorem Out.refl {w : World} {G : Heap} {φ : Phi} {A : Avoid} (h : St w G φ A) : Out w G φ A w G φ A := ⟨h, .refl _ _, .refl _ _ _ _, fun _ h _ => h⟩

theorem Ow.lt {w : World} {G : Heap} {φ : Phi} {A : Avoid} (h : St w G φ A) {c : Nat} (hc : Ow φ c) : c < w.heap.size := h.bnd c (h.own c hc)

theorem Out.trans {w w1 w2 : World} {G G1 G2 : Heap} {φ φ1 φ2 : Phi} {A A1 A2 : Avoid} (h0 : St w G φ A) (h : Out w G φ A w1 G1 φ1 A1) (k : Out w1 G1 φ1 A1 w2 G2 φ2 A2) : Out w G φ A w2 G2 φ2 A2 where
  st := k.st
  post := h.post.trans k.post
  evo := h.evo.trans k.evo fun c hc => by rw [(h.post.trans k.post).bsz c (Ow.lt h0 hc)]
  keep c hc hn := by
    refine k.keep c (h.keep c hc hn) fun ho => ?_
    rcases h.post.own c ho with h1 | h1
    · exact hn h1
    · exact absurd (h0.bnd c hc) (by omega)

/-- What a quiet operation comes to. -/
def QRes (w : World) (G : Heap) (φ : Phi) (A : Avoid) (H H' : Heap) (r : Result Next) (x : AV) : Prop :=
  ∃ n v w' φ' A', r = .ok n w' ∧ (n = .value v ∨ (n = .skip ∧ v = undef)) ∧ R w' G φ' A' x v ∧ Out w G φ A w' G φ' A' ∧
    ∀ id loc, φ' id = some loc → φ id = some loc ∨ (H.bs.length ≤ id ∧ id < H'.bs.length)

theorem QRes.val {w : World} {G : Heap} {φ : Phi} {A : Avoid} {H H' : Heap} {r : Result Next} {x : AV} {v : Value} (hs : St w G φ A) (hr : r = .ok (.value v) w) (hx : R w G φ A x v) : QRes w G φ A H H' r x :=
  ⟨_, v, w, φ, A, hr, .inl rfl, hx, .refl hs, fun _ _ h => .inl h⟩

def Ext (H G : Heap) : Prop := (∀ id b, H.get id = some b → G.get id = some b) ∧ H.st ≤ G.st

theorem Ext.blk {H G : Heap} (h : Ext H G) {id ver : Nat} {b : Blk} (hb : H.blk id ver = some b) : G.blk id ver = some b := by
  obtain ⟨hg, hv⟩ := Heap.blk_get hb
  have := Heap.blk_of_get (h.1 id b hg)
  rwa [hv] at this

theorem Ext.refl (H : Heap) : Ext H H := ⟨fun _ _ h => h, Nat.le_refl _⟩

/-! ints, bools, texts -/
theorem eqGuard_plain (P : Program) (w : World) (op : BinOp) (t : TypeId) (x y : Operand) (a b : Value) (h1 : a ≠ .nilIface) (h2 : isAggV a = false) :
    (eqGuard op t x y a b).run P w = .ok () w := by
  cases a with
  | nilIface => exact absurd rfl h1
  | agg cs => simp [isAggV] at h2
  | _ => cases op <;> rfl

theorem bin_int (P : Program) (w : World) {E : TEnv} {op : BinOp} {t : TypeId} {k yk : IntKind} {a b : Int} {z : AV} (h : binA E op t (.int k a) (.int yk b) = some z) :
    ∃ v, (binOp op t (.int k a) (.int yk b)).run P w = .ok v w ∧ FR w (fun _ => False) z v := by
  unfold binA at h
  cases op <;> simp only at h
  case shl =>
    split at h
    · simp at h
    · rename_i hb
      simp only [Option.some.injEq] at h; subst h
      exact ⟨_, by simp [binOp, Op.shift, hb], .int _ _⟩
  case shr =>
    split at h
    · simp at h
    · rename_i hb
      simp only [Option.some.injEq] at h; subst h
      exact ⟨_, by simp [binOp, Op.shift, hb], .int _ _⟩
  case quo =>
    split at h
    · rename_i hk; subst hk
      simp only [intBin] at h
      split at h
      · simp at h
      · rename_i hb
        simp only [Option.some.injEq] at h; subst h
        exact ⟨_, by simp [binOp, Op.intDiv, hb], .int _ _⟩
    · simp at h
  case rem =>
    split at h
    · rename_i hk; subst hk
      simp only [intBin] at h
      split at h
      · simp at h
      · rename_i hb
        simp only [Option.some.injEq] at h; subst h
        exact ⟨_, by simp [binOp, Op.intDiv, hb], .int _ _⟩
    · simp at h
  all_goals
    split at h
    · rename_i hk; subst hk
      simp only [intBin, Option.some.injEq] at h
      try subst h
      try (refine ⟨_, (by simp only [binOp, ne_eq, not_true_eq_false, if_false, Op.intArith, Op.intBits, Op.intCmp]; rfl), ?_⟩; first | exact .int _ _ | exact .bool _)
    · simp at h

theorem bin_str (P : Program) (w : World) {op : BinOp} {t : TypeId} {a b : ByteArray} {z : AV} (h : strBin op a.data.toList b.data.toList = some z) :
    ∃ v, (binOp op t (.string a) (.string b)).run P w = .ok v w ∧ FR w (fun _ => False) z v := by
  cases op <;> simp only [strBin, Option.some.injEq, reduceCtorEq] at h
  case add =>
    split at h
    · rename_i hl
      simp only [Option.some.injEq] at h; subst h
      have hl' : a.size + b.size ≤ 2 ^ 45 := by have := hl; simp only [Array.length_toList] at this; exact this
      refine ⟨.string (a ++ b), ?_, ?_⟩
      · have : ¬ (((a.size + b.size : Nat) : Int) > IntKind.i64.max) := by have : IntKind.i64.max = 9223372036854775807 := rfl; omega
        simp only [binOp, Op.stringOp, this, if_false, Sem.run_pure]
      · have := FR.str (w := w) (A := fun _ => False) (a ++ b)
        rwa [ByteArray.data_append, Array.toList_append] at this
    · simp at h
  all_goals
    subst h
    refine ⟨_, by simp only [binOp, Op.stringOp, ByteArray.toList_eq, Sem.run_pure], .bool _⟩

theorem un_ok (P : Program) {w : World} {H : Heap} {φ : Phi} {A : Avoid} {op : UnOp} {x z : AV} {a : Value} (hx : R w H φ A x a) (h : unA op x = some z) :
    ∃ v, (Op.unary op a).run P w = .ok v w ∧ R w H φ A z v := by
  unfold unA at h
  split at h
  · have := hx.int_inv; subst this
    simp only [Option.some.injEq] at h; subst h
    exact ⟨_, by simp [Op.unary, Op.intArith], .fr _ _ (.int _ _)⟩
  · have := hx.bool_inv; subst this
    simp only [Option.some.injEq] at h; subst h
    exact ⟨_, by simp [Op.unary], .fr _ _ (.bool _)⟩
  · simp at h

/-! Structs compared. -/
theorem part_cells {P : Program} {t : TypeId} {ti : TI} (ht : TyOK P t ti) (w : World) (vs : Array Value) (o : Nat) (ho : o + ti.sz ≤ vs.size) (h1 : ti.agg = false → ti.sz = 1)
    (h2 : ∀ (j : Nat) (v : Value), vs[j]? = some v → isAggV v = false) :
    ∃ v, (part t vs o).run P w = .ok v w ∧ v.cells = vs.extract o (o + ti.sz) ∧ isAggV v = ti.agg := by
  unfold part
  simp only [Sem.run_bind, ht.isAgg, Result.andThen_ok]
  cases ha : ti.agg with
  | true =>
    simp only [if_true, Sem.run_bind, ht.sizeOf, Result.andThen_ok, Sem.run_pure]
    exact ⟨_, rfl, rfl, rfl⟩
  | false =>
    have hs := h1 ha
    have hlt : o < vs.size := by omega
    simp only [Bool.false_eq_true, if_false, Array.getElem?_eq_getElem hlt, Sem.run_pure]
    refine ⟨_, rfl, ?_, ?_⟩
    · have hn := h2 o vs[o] (Array.getElem?_eq_getElem hlt)
      have : (vs[o]).cells = #[vs[o]] := by generalize vs[o] = u at hn ⊢; cases u <;> first | rfl | simp [isAggV] at hn
      rw [this, hs]
      apply Array.ext
      · simp; omega
      · intro i h1 h2
        simp at h1
        subst h1
        simp
    · exact h2 o vs[o] (Array.getElem?_eq_getElem hlt)

section equal
variable {P : Program} {E : TEnv} (hE : ∀ t ti, E t = some ti → TyOK P t ti)
include hE

structure CellsR (w : World) (H : Heap) (φ : Phi) (A : Avoid) (agg : Bool) (xs : List AV) (v : Value) : Prop where
  len : xs.length = v.cells.size
  agg : isAggV v = agg
  val : ∀ (i : Nat) (x : AV) (u : Value), xs[i]? = some x → v.cells[i]? = some u → R w H φ A x u

theorem eqT_scalar {d : Nat} {t : TypeId} {ti : TI} {xs ys : List AV} {r : Bool} (h1 : E t = some ti) (h : eqT E (d + 1) t xs ys = some r) (hn : ti.agg = false) : xs.length = 1 := by
  simp only [eqT, h1] at h
  split at h
  · split at h
    · rfl
    · simp at h
  · split at h
    · rfl
    · simp at h
  · split at h
    · rfl
    · simp at h
  · rename_i fs hu
    obtain ⟨gs, hg, _⟩ := (hE t ti h1).und_st default hu
    have := (hE t ti h1).isAgg default
    simp only [Go.isAgg, Sem.run_bind, hg, Result.andThen_ok, Sem.run_pure] at this
    simp [hn] at this
  · simp at h

/-- '==' as the type has it is the machine's. -/
theorem eqT_ok {w w0 : World} {H : Heap} {φ : Phi} {A : Avoid} : ∀ (d : Nat) (t : TypeId) (ti : TI) (xs ys : List AV) (r : Bool), E t = some ti → eqT E d t xs ys = some r →
    ∀ (m : Nat), d ≤ m → ∀ (x y : Value), CellsR w0 H φ A ti.agg xs x → CellsR w0 H φ A ti.agg ys y → (∀ (j : Nat) (v : Value), x.cells[j]? = some v → isAggV v = false) →
    (∀ (j : Nat) (v : Value), y.cells[j]? = some v → isAggV v = false) → (Op.equalIn m t x y).run P w = .ok r w
  | 0, _, _, _, _, _, _, h => by simp [eqT] at h
  | d + 1, t, ti, xs, ys, r, h1, h => by
    intro m hm x y hx hy ha hb
    obtain ⟨m, rfl⟩ : ∃ k, m = k + 1 := ⟨m - 1, by omega⟩
    have hT := hE t ti h1
    have hcell : ∀ {x : Value} {a : AV}, CellsR w0 H φ A ti.agg [a] x → ti.agg = false → R w0 H φ A a x := by
      intro x a hc hn
      have h2 := hc.agg
      rw [hn] at h2
      have : x.cells = #[x] := by cases x <;> first | rfl | simp [isAggV] at h2
      exact hc.val 0 a x rfl (by rw [this]; rfl)
    have hnag : ∀ {e : UD}, ti.und = e → (match e with | .it _ | .bl | .str => True | _ => False) → ti.agg = false := by
      intro e he hm
      have := hT.isAgg default
      obtain ⟨i, dd, z, _, hd, _, _, _, _, hag, _, _, _, hud, _⟩ := hT.out
      rw [← hag]
      rw [he] at hud
      cases dd with
      | array n e' => simp only [udOf] at hud; subst hud; simp at hm
      | struct gs => simp only [udOf] at hud; split at hud <;> (subst hud; simp at hm)
      | _ => rfl
    simp only [eqT, h1] at h
    split at h
    · rename_i k hu
      have hn := hnag hu trivial
      split at h
      · rename_i k a j b
        split at h
        · rename_i hk; subst hk
          simp only [Option.some.injEq] at h; subst h
          have e1 := (hcell hx hn).int_inv; have e2 := (hcell hy hn).int_inv
          subst e1; subst e2
          have := hT.und_it w hu
          simp [Op.equalIn, this]
        · simp at h
      · simp at h
    · rename_i hu
      have hn := hnag hu trivial
      split at h
      · rename_i a b
        simp only [Option.some.injEq] at h; subst h
        have e1 := (hcell hx hn).bool_inv; have e2 := (hcell hy hn).bool_inv
        subst e1; subst e2
        have := hT.und_bl w hu
        simp [Op.equalIn, this]
      · simp at h
    · rename_i hu
      have hn := hnag hu trivial
      split at h
      · rename_i a b
        simp only [Option.some.injEq] at h; subst h
        obtain ⟨s, rfl, e1⟩ := (hcell hx hn).str_inv
        obtain ⟨u, rfl, e2⟩ := (hcell hy hn).str_inv
        have := hT.und_str w hu
        simp only [Op.equalIn, Sem.run_bind, this, Result.andThen_ok, Sem.run_pure, beq_toListBytes, ByteArray.toList_eq, e1, e2]
      · simp at h
    · rename_i fs hu
      split at h
      · rename_i hok
        obtain ⟨gs, hg, hfs, hnm, hd⟩ := hT.und_st w hu
        have hag : ti.agg = true := by
          have := hT.isAgg w
          simp only [Go.isAgg, Sem.run_bind, hg, Result.andThen_ok, Sem.run_pure] at this
          simpa using this.symm
        obtain ⟨i0, d0, z0, _, _, _, _, _, _, _, _, _, _, _, heq⟩ := hT.out
        have hst := (heq hok).1
        rw [hag] at hx hy
        obtain ⟨vs, rfl⟩ : ∃ vs, x = .agg vs := by have := hx.agg; cases x <;> first | exact ⟨_, rfl⟩ | simp [isAggV] at this
        obtain ⟨us, rfl⟩ : ∃ us, y = .agg us := by have := hy.agg; cases y <;> first | exact ⟨_, rfl⟩ | simp [isAggV] at this
        have hfo : P.fieldsOf t = gs := by simp [Program.fieldsOf, hd]
        rw [run_equalIn_struct w m t vs us (by rw [hd, hfo]) hst, hfo]
        clear hg hu hd hfo
        generalize hgl : gs.toList = gl at hfs hnm ⊢
        clear hgl
        induction gl generalizing fs r with
        | nil =>
          subst hfs
          simp only [List.map_nil, eqFs, Option.some.injEq] at h; subst h
          simp [Op.eqFields]
        | cons g gl ih =>
          subst hfs
          simp only [List.map_cons, eqFs] at h
          cases hf : E g.type with
          | none => simp [hf] at h
          | some tf =>
            simp only [hf] at h
            split at h
            · rename_i hle
              cases hq : eqT E d g.type (subL xs g.offset tf.sz) (subL ys g.offset tf.sz) with
              | none => simp [hq] at h
              | some b =>
                simp only [hq] at h
                cases hr : eqFs E (eqT E d) (gl.map fun f => (f.offset, f.type)) xs ys with
                | none => simp [hr] at h
                | some r' =>
                  simp only [hr, Option.some.injEq] at h
                  have hF := hE _ _ hf
                  have hlx : xs.length = vs.size := hx.len
                  have hly : ys.length = us.size := hy.len
                  have hs1 : tf.agg = false → tf.sz = 1 := by
                    intro hn
                    cases d with
                    | zero => simp [eqT] at hq
                    | succ d =>
                      have := eqT_scalar hE hf hq hn
                      simp [subL] at this; omega
                  obtain ⟨v1, p1, c1, a1⟩ := part_cells hF w vs g.offset (by omega) hs1 ha
                  obtain ⟨v2, p2, c2, a2⟩ := part_cells hF w us g.offset (by omega) hs1 hb
                  have sub : ∀ {zs : List AV} {ws : Array Value} {v : Value}, zs.length = ws.size → g.offset + tf.sz ≤ zs.length →
                      (∀ (i : Nat) (x : AV) (u : Value), zs[i]? = some x → ws[i]? = some u → R w0 H φ A x u) → v.cells = ws.extract g.offset (g.offset + tf.sz) → isAggV v = tf.agg →
                      CellsR w0 H φ A tf.agg (subL zs g.offset tf.sz) v := by
                    intro zs ws v hl hle hval hc hag
                    refine ⟨by rw [hc]; simp [subL]; omega, hag, fun i x u hi hu => ?_⟩
                    rw [hc] at hu
                    simp only [subL, List.getElem?_take, List.getElem?_drop, Array.getElem?_extract] at hi hu
                    split at hi
                    · split at hu
                      · exact hval _ _ _ hi hu
                      · simp at hu
                    · simp at hi
                  have nag : ∀ {ws : Array Value} {v : Value}, v.cells = ws.extract g.offset (g.offset + tf.sz) → (∀ (j : Nat) (v : Value), ws[j]? = some v → isAggV v = false) →
                      ∀ (j : Nat) (u : Value), v.cells[j]? = some u → isAggV u = false := by
                    intro ws v hc hw j u hu
                    rw [hc] at hu
                    simp only [Array.getElem?_extract] at hu
                    split at hu
                    · exact hw _ _ hu
                    · simp at hu
                  have he := eqT_ok (w := w) d g.type tf _ _ b hf hq m (by omega) v1 v2 (sub hlx hle.1 hx.val c1 a1) (sub hly hle.2 hy.val c2 a2) (nag c1 ha) (nag c2 hb)
                  have hnm1 : g.name ≠ "_" := hnm g (by simp)
                  simp only [Op.eqFields, if_pos hnm1, Sem.run_bind, p1, p2, he, Result.andThen_ok]
                  have ih' := ih r' _ hr rfl (fun f hf => hnm f (by simp [hf]))
                  cases b with
                  | true => simp only [Bool.not_true, Bool.false_eq_true, if_false]; rw [ih', ← h]; simp
                  | false => simp [← h]
            · simp at h
      · simp at h
    · simp at h
end equal

end Go.VS
