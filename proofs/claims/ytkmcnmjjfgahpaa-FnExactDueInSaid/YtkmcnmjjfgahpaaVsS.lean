/-
  VS, part 19: every operation that calls no function.
-/
import Derived.Test.YtkmcnmjjfgahpaaVsR
namespace Go.VS

theorem Heap.ext_old {H H' : Heap} (h : H' = H ∨ ∃ sz fx el, H' = H.new sz fx el) : Ext H H' ∧ (∀ id b, H'.get id = some b → b.ver < H.st → H.get id = some b) ∧ H.bs.length ≤ H'.bs.length := by
  rcases h with rfl | ⟨sz, fx, el, rfl⟩
  · exact ⟨Ext.refl _, fun _ _ h _ => h, Nat.le_refl _⟩
  · refine ⟨Heap.ext_new H sz fx el, fun id b hg hv => ?_, by simp [Heap.new]⟩
    by_cases hid : id < H.bs.length
    · rw [Heap.get_new_old H sz fx el hid] at hg; exact hg
    · have hl := Heap.get_lt hg
      have : id = H.bs.length := by simp [Heap.new] at hl; omega
      subst this
      rw [Heap.get_new] at hg
      simp only [Option.some.injEq] at hg; subst hg
      exact absurd hv (Nat.lt_irrefl _)

theorem pureV_ext {_E : TEnv} {v : Option AV} {H H' : Heap} {z : AV} (h : (match v with | some v => some (v, H) | none => none) = some (z, H')) : H' = H := by
  cases v with
  | none => simp at h
  | some v => simp at h; exact h.2.symm

theorem evalOp_ext {E : TEnv} {op : Op} {s : Frm} {H H' : Heap} {z : AV} (hq : quietOp op = true) (h : evalOp E op s H = some (z, H')) : H' = H ∨ ∃ sz fx el, H' = H.new sz fx el := by
  have hns : ¬ ∃ t a v, op = .store t a v := by
    rintro ⟨t, a, v, rfl⟩
    have : quietOp (.store t a v) = false := rfl
    rw [this] at hq; simp at hq
  cases op with
  | makeFunc fn first cap =>
    cases fn <;> simp only [evalOp] at h
    · split at h
      · simp only [Option.some.injEq, Prod.mk.injEq] at h; exact .inl h.2.symm
      · simp at h
    all_goals simp at h
  | _ => (simp only [evalOp] at h <;> (repeat' split at h) <;> first
      | (simp at h; done)
      | (simp only [Option.some.injEq, Prod.mk.injEq] at h; first | exact .inl h.2.symm | exact .inr ⟨_, _, _, h.2.symm⟩ | exact absurd ⟨_, _, _, rfl⟩ hns)
      | exact absurd ⟨_, _, _, rfl⟩ hns)

section ops
variable {P : Program} {E : TEnv} (hE : ∀ t ti, E t = some ti → TyOK P t ti)
variable {w : World} {H : Heap} {φ : Phi} {A : Avoid}

theorem St.new (hst : St w H φ A) {id : Nat} (h : H.bs.length ≤ id) : φ id = none := by
  cases hp : φ id with
  | none => rfl
  | some loc =>
    obtain ⟨b, hb, _⟩ := hst.blk id loc hp
    have := Heap.get_lt hb
    omega

/-- A heap with more in it. -/
theorem extOut (hst : St w H φ A) {H' : Heap} (hx : Ext H H') (ho : ∀ id b, H'.get id = some b → b.ver < H.st → H.get id = some b) : Out w H φ A w H' φ A := by
  have hevo : Evo w H φ A w H' φ A := ⟨fun c a t fr hc hn => ⟨⟨fr, hc⟩, hn⟩, hx.2, fun id b hb hv => ⟨b, ho id b hb hv, rfl, rfl, rfl, rfl, fun _ h => h⟩, fun _ _ => rfl⟩
  refine ⟨⟨hst.inj, hst.own, hst.bnd, fun id loc h => ?_⟩, .refl _ _, hevo, fun _ h _ => h⟩
  obtain ⟨b, hb, hok⟩ := hst.blk id loc h
  refine ⟨b, hx.1 _ _ hb, Nat.lt_of_lt_of_le hok.ver hx.2, hok.sized, hok.virt, fun c b0 hl => ?_⟩
  obtain ⟨arr, T, fr, h1, h2, h3, h4⟩ := hok.here c b0 hl
  exact ⟨arr, T, fr, h1, h2, h3, fun i x j y v hx hy hv => ⟨(h4 i x j y v hx hy hv).1.mono hevo, (h4 i x j y v hx hy hv).2⟩⟩

theorem MRes.of_q (hst : St w H φ A) {H' : Heap} (he : H' = H ∨ ∃ sz fx el, H' = H.new sz fx el) {r : Result Next} {z : AV} (h : QRes w H' φ A H H' r z) : MRes w H φ A H' r z := by
  obtain ⟨n, v, w', φ', A', h1, h2, h3, h4, _⟩ := h
  obtain ⟨e1, e2, _⟩ := Heap.ext_old he
  exact ⟨n, v, w', φ', A', h1, h2, h3, (extOut hst e1 e2).trans hst h4⟩

include hE in
theorem simOp {H' : Heap} (hst : St w H φ A) {o : Oper} {s : Frm} {ρ : Operand → Value} {z : AV} (hρ : ∀ y ∈ o.op.operands, R w H φ A (ev s y) (ρ y)) (h : evalOp E o.op s H = some (z, H')) :
    MRes w H φ A H' ((execOp ρ o).run P w) z := by
  by_cases hq : quietOp o.op = true
  · have he := evalOp_ext hq h
    obtain ⟨e1, e2, _⟩ := Heap.ext_old he
    have ho := extOut hst e1 e2
    exact MRes.of_q hst he (simQuiet hE ho.st e1 (Ext.refl _) (fun _ => hst.new (Nat.le_refl _)) hq (fun y hy => (hρ y hy).mono ho.evo) h)
  · obtain ⟨dst, op, type, pos, after, guard⟩ := o
    cases op with
    | store t x v =>
      have hx := hρ x (by simp [Op.operands])
      have hv := hρ v (by simp [Op.operands])
      simp only [evalOp] at h
      exact m_store hE hst hx hv h
    | _ => first | (simp [quietOp] at hq; done) | (simp [evalOp] at h; done)

/-- The quiet builtins. -/
theorem minmax_ok {op : Value → Value → Sem Value} {f : AV → AV → Option AV} (hop : ∀ a b x y z, R w H φ A a x → R w H φ A b y → f a b = some z → ∃ v, (op x y).run P w = .ok v w ∧ R w H φ A z v) :
    ∀ (rest : List AV) (vs : List Value) (x : AV) (v : Value) (z : AV), rest.length = vs.length → (∀ (i : Nat) (a : AV) (u : Value), rest[i]? = some a → vs[i]? = some u → R w H φ A a u) → R w H φ A x v → rest.foldlM f x = some z →
    ∃ u, (vs.foldlM op v).run P w = .ok u w ∧ R w H φ A z u
  | [], [], x, v, z, _, _, hx, h => by simp at h; subst h; exact ⟨v, by simp, hx⟩
  | [], _ :: _, _, _, _, h, _, _, _ => by simp at h
  | _ :: _, [], _, _, _, h, _, _, _ => by simp at h
  | a :: rest, b :: vs, x, v, z, hl, hr, hx, h => by
    simp only [List.foldlM_cons] at h
    cases hf : f x a with
    | none => simp [hf] at h
    | some y =>
      simp only [hf, Option.bind_eq_bind, Option.bind_some] at h
      obtain ⟨u, hu, hy⟩ := hop _ _ _ _ _ hx (hr 0 a b rfl rfl) hf
      obtain ⟨q, hq, hz⟩ := minmax_ok hop rest vs y u z (by simpa using hl) (fun i a u h1 h2 => hr (i + 1) a u h1 h2) hy h
      exact ⟨q, by simp [hu, hq], hz⟩

include hE in
theorem simBuiltin {H' : Heap} (hst : St w H φ A) {b : Builtin} {tys : Array TypeId} {ty : TypeId} {consts : Array Bool} {args : List AV} {vs : Array Value} {z : AV} (hl : args.length = vs.size)
    (hρ : ∀ (i : Nat) (a : AV) (u : Value), args[i]? = some a → vs[i]? = some u → R w H φ A a u) (h : evalBuiltin E b tys args H = some (z, H')) :
    MRes w H φ A H' ((builtin b tys ty consts vs).run P w) z := by
  unfold evalBuiltin at h
  split at h
  · rename_i x
    obtain ⟨a, rfl⟩ : ∃ a, vs = #[a] := by
      have h1 : vs.size = 1 := hl.symm
      exact ⟨vs[0], by apply Array.ext; simp [h1]; intro i h1 h2; simp at h2; subst h2; rfl⟩
    have hx := hρ 0 x a rfl rfl
    split at h
    · rename_i ti n ht hn
      obtain ⟨t, h0, ht⟩ := Option.bind_eq_some_iff.1 ht
      have key : ∀ {q : AV × Heap}, some q = some (z, H') → q = (AV.int .i64 n, H) → ((∃ e, ti.und = .sl e ∧ ∀ s, x ≠ .str s) ∨ (ti.und = .str ∧ ∃ s, x = .str s)) → MRes w H φ A H' ((builtin .len tys ty consts #[a]).run P w) z := by
        intro q hq hqe hu
        subst hqe
        simp only [Option.some.injEq, Prod.mk.injEq] at hq
        obtain ⟨rfl, rfl⟩ := hq
        have := v_len (tys := tys) (ty := ty) hE h0 hx (Ext.refl H) hn ht hu
        exact MRes.same (by simp [builtin, this]) (.fr _ _ (.int _ _)) (.refl hst)
      split at h
      · rename_i s hu
        exact key h rfl (.inr ⟨hu, s, rfl⟩)
      · simp at h
      · rename_i e hu hne
        exact key h rfl (.inl ⟨e, hu, fun s hs => hne s hs⟩)
      · simp at h
    · simp at h
  · rename_i s x
    obtain ⟨a, b, rfl⟩ : ∃ a b, vs = #[a, b] := by
      have h1 : vs.size = 2 := hl.symm
      exact ⟨vs[0], vs[1], by apply Array.ext; simp [h1]; intro i h1 h2; simp at h2; rcases i with _ | _ | i; rfl; rfl; omega⟩
    have hs := hρ 0 s a rfl rfl
    have hx := hρ 1 x b rfl rfl
    split at h
    · rename_i t h0
      split at h
      · rename_i te tx hte htx
        obtain ⟨t2, h1, htx⟩ := Option.bind_eq_some_iff.1 htx
        have hnx : ∀ {q : AV × Heap}, (match tx.und with | .it _ => none | _ => appendA te s x H) = some q → (∀ k, tx.und ≠ .it k) ∧ appendA te s x H = some q := by
          intro q hq
          split at hq
          · simp at hq
          · rename_i hne; exact ⟨fun k hk => hne k hk, hq⟩
        obtain ⟨hk0, h⟩ := hnx h
        cases s with
        | ref id ver off len => exact m_append hE hst h0 h1 hte htx hk0 hs hx h
        | nil =>
          have he : H' = H ∨ ∃ sz fx el, H' = H.new sz fx el := by
            simp only [appendA] at h
            repeat' split at h
            all_goals first
              | (simp at h; done)
              | (simp only [Option.some.injEq, Prod.mk.injEq] at h; first | exact .inl h.2.symm | exact .inr ⟨_, _, _, h.2.symm⟩)
          obtain ⟨e1, e2, _⟩ := Heap.ext_old he
          have ho := extOut hst e1 e2
          exact MRes.of_q hst he (q_append0 hE ho.st e1 (Ext.refl _) (fun _ => hst.new (Nat.le_refl _)) h0 h1 hte htx hk0 (hs.mono ho.evo) (hx.mono ho.evo) (.inl rfl) h)
        | e0 =>
          have he : H' = H ∨ ∃ sz fx el, H' = H.new sz fx el := by
            simp only [appendA] at h
            repeat' split at h
            all_goals first
              | (simp at h; done)
              | (simp only [Option.some.injEq, Prod.mk.injEq] at h; first | exact .inl h.2.symm | exact .inr ⟨_, _, _, h.2.symm⟩)
          obtain ⟨e1, e2, _⟩ := Heap.ext_old he
          have ho := extOut hst e1 e2
          exact MRes.of_q hst he (q_append0 hE ho.st e1 (Ext.refl _) (fun _ => hst.new (Nat.le_refl _)) h0 h1 hte htx hk0 (hs.mono ho.evo) (hx.mono ho.evo) (.inr rfl) h)
        | _ => (simp only [appendA] at h; (repeat' split at h) <;> simp at h)
      · simp at h
    · simp at h
  · rename_i d x
    obtain ⟨a, b, rfl⟩ : ∃ a b, vs = #[a, b] := by
      have h1 : vs.size = 2 := hl.symm
      exact ⟨vs[0], vs[1], by apply Array.ext; simp [h1]; intro i h1 h2; simp at h2; rcases i with _ | _ | i; rfl; rfl; omega⟩
    split at h
    · rename_i te hte
      obtain ⟨t, h0, hte⟩ := Option.bind_eq_some_iff.1 hte
      exact m_copy hE hst h0 hte (hρ 0 d a rfl rfl) (hρ 1 x b rfl rfl) h
    · simp at h
  · rename_i d
    obtain ⟨a, rfl⟩ : ∃ a, vs = #[a] := by
      have h1 : vs.size = 1 := hl.symm
      exact ⟨vs[0], by apply Array.ext; simp [h1]; intro i h1 h2; simp at h2; subst h2; rfl⟩
    split at h
    · rename_i te hte
      obtain ⟨t, h0, hte⟩ := Option.bind_eq_some_iff.1 hte
      exact m_clear hE hst h0 hte (hρ 0 d a rfl rfl) h
    · simp at h
  · split at h
    · rename_i v hv
      simp only [Option.some.injEq, Prod.mk.injEq] at h
      obtain ⟨rfl, rfl⟩ := h
      cases args with
      | nil => simp [minA] at hv
      | cons x rest =>
        obtain ⟨a, us, hus⟩ : ∃ a us, vs.toList = a :: us := by
          cases hvl : vs.toList with
          | nil => have := congrArg List.length hvl; simp at this; simp [this] at hl
          | cons a us => exact ⟨a, us, rfl⟩
        have hlen : rest.length = us.length := by have := congrArg List.length hus; simp at this; simp at hl; omega
        have hget : ∀ (i : Nat) (u : Value), (a :: us)[i]? = some u → vs[i]? = some u := fun i u hu => by rw [← hus] at hu; simpa using hu
        obtain ⟨u, hu, hz⟩ := minmax_ok (P := P) (op := Builtin.min2) (f := fun a b => match a, b with | .int k x, .int _ y => some (.int k (if y < x then y else x)) | _, _ => none) (fun a b x y z ha hb hf => by
          split at hf
          · have e1 := ha.int_inv; have e2 := hb.int_inv; subst e1; subst e2
            simp only [Option.some.injEq] at hf; subst hf
            exact ⟨_, by simp [Builtin.min2], .fr _ _ (.int _ _)⟩
          · simp at hf) rest us x a v hlen (fun i p q hp hq => hρ (i + 1) p q hp (hget (i + 1) q hq)) (hρ 0 x a rfl (hget 0 a rfl)) hv
        exact MRes.same (by simp [builtin, Builtin.min_, hus, hu]) hz (.refl hst)
    · simp at h
  · split at h
    · rename_i v hv
      simp only [Option.some.injEq, Prod.mk.injEq] at h
      obtain ⟨rfl, rfl⟩ := h
      cases args with
      | nil => simp [maxA] at hv
      | cons x rest =>
        obtain ⟨a, us, hus⟩ : ∃ a us, vs.toList = a :: us := by
          cases hvl : vs.toList with
          | nil => have := congrArg List.length hvl; simp at this; simp [this] at hl
          | cons a us => exact ⟨a, us, rfl⟩
        have hlen : rest.length = us.length := by have := congrArg List.length hus; simp at this; simp at hl; omega
        have hget : ∀ (i : Nat) (u : Value), (a :: us)[i]? = some u → vs[i]? = some u := fun i u hu => by rw [← hus] at hu; simpa using hu
        obtain ⟨u, hu, hz⟩ := minmax_ok (P := P) (op := Builtin.max2) (f := fun a b => match a, b with | .int k x, .int _ y => some (.int k (if y > x then y else x)) | _, _ => none) (fun a b x y z ha hb hf => by
          split at hf
          · have e1 := ha.int_inv; have e2 := hb.int_inv; subst e1; subst e2
            simp only [Option.some.injEq] at hf; subst hf
            exact ⟨_, by simp [Builtin.max2], .fr _ _ (.int _ _)⟩
          · simp at hf) rest us x a v hlen (fun i p q hp hq => hρ (i + 1) p q hp (hget (i + 1) q hq)) (hρ 0 x a rfl (hget 0 a rfl)) hv
        exact MRes.same (by simp [builtin, Builtin.max_, hus, hu]) hz (.refl hst)
    · simp at h
  · simp at h
end ops
end Go.VS
