/-
  VS, part 35: one quiet operation, in open order.
-/
import Derived.Test.YtkmcnmjjfgahpaaVtH
namespace Go.VS

/-- Nothing old has turned. -/
def Old (H H1 : Heap) : Prop := ∀ id b, H1.get id = some b → b.ver < H.st → H.get id = some b
def QG (H H1 : Heap) : Prop := Grow H H1 ∧ Old H H1

theorem QG.refl (H : Heap) : QG H H := ⟨.refl _, fun _ _ h _ => h⟩
theorem QG.trans {H H1 H2 : Heap} (h : QG H H1) (k : QG H1 H2) : QG H H2 :=
  ⟨h.1.trans k.1, fun id b hb hv => h.2 id b (k.2 id b hb (Nat.lt_of_lt_of_le hv h.1.1.2)) hv⟩
theorem QG.of {H H' : Heap} (h : H' = H ∨ ∃ sz fx el, H' = H.new sz fx el) : QG H H' := by
  obtain ⟨h1, h2, h3⟩ := Heap.ext_old h
  exact ⟨⟨h1, h3⟩, h2⟩
theorem QG.new (H : Heap) (sz : Nat) (fx : Bool) (el : List AV) : QG H (H.new sz fx el) := .of (.inr ⟨_, _, _, rfl⟩)

mutual
theorem thawV_qg : ∀ (y : AV) (H : Heap), QG H (thawV y H).2
  | .own sz xs, H => by simp only [thawV]; exact (thawL_qg xs H).trans (.new _ _ _ _)
  | .optr sz x, H => by simp only [thawV]; exact (thawV_qg x H).trans (.new _ _ _ _)
  | .agg xs, H => by simp only [thawV]; exact thawL_qg xs H
  | .tup xs, H => by simp only [thawV]; exact thawL_qg xs H
  | .undef, H => .refl _
  | .int _ _, H => .refl _
  | .bool _, H => .refl _
  | .str _, H => .refl _
  | .nil, H => .refl _
  | .e0, H => .refl _
  | .fz _, H => .refl _
  | .ref _ _ _ _, H => .refl _
  | .ptr _ _ _ _, H => .refl _
  | .fe _ _, H => .refl _
  | .fn _ _, H => .refl _
  | .errv _, H => .refl _
  | .nilp, H => .refl _
theorem thawL_qg : ∀ (ys : List AV) (H : Heap), QG H (thawL ys H).2
  | [], H => .refl _
  | y :: ys, H => by simp only [thawL]; exact (thawV_qg y H).trans (thawL_qg ys _)
end

section ops
variable {P : Program} {E : TEnv} (hE : ∀ t ti, E t = some ti → TyOK P t ti)
variable {w : World} {G : Heap} {φ : Phi} {A : Avoid}

theorem quietBuiltin_qg {b : Builtin} {tys : Array TypeId} {args : List AV} {H H' : Heap} {z : AV} (hq : quietBuiltin b args = true) (h : evalBuiltin E b tys args H = some (z, H')) : QG H H' := by
  have hap : ∀ {te : TI} {s x : AV}, s = .nil ∨ s = .e0 → appendA te s x H = some (z, H') → QG H H' := by
    intro te s x hs h
    refine .of ?_
    rcases hs with rfl | rfl
    all_goals
      simp only [appendA] at h
      repeat' split at h
      all_goals first
        | (simp at h; done)
        | (simp only [Option.some.injEq, Prod.mk.injEq] at h; first | exact .inl h.2.symm | exact .inr ⟨_, _, _, h.2.symm⟩)
  unfold evalBuiltin at h
  split at h
  · repeat' split at h
    all_goals first
      | (simp at h; done)
      | (simp only [Option.some.injEq, Prod.mk.injEq] at h; rw [← h.2]; exact .refl _)
  · rename_i s x
    have hs : s = .nil ∨ s = .e0 := by
      cases s <;> first | exact .inl rfl | exact .inr rfl | (simp [quietBuiltin] at hq)
    split at h
    · split at h
      · split at h
        · simp at h
        · exact hap hs h
      · simp at h
    · simp at h
  · simp [quietBuiltin] at hq
  · simp [quietBuiltin] at hq
  · split at h
    · simp only [Option.some.injEq, Prod.mk.injEq] at h; rw [← h.2]; exact .refl _
    · simp at h
  · split at h
    · simp only [Option.some.injEq, Prod.mk.injEq] at h; rw [← h.2]; exact .refl _
    · simp at h
  · simp at h

include hE in
theorem simBuiltinQ (hst : St w G φ A) {H H' : Heap} (hX : Ext H G) (hX' : Ext H' G) (hnew : H.bs.length < H'.bs.length → φ H.bs.length = none) {b : Builtin} {tys : Array TypeId} {ty : TypeId} {consts : Array Bool} {args : List AV} {vs : Array Value} {z : AV} (hq : quietBuiltin b args = true) (hl : args.length = vs.size)
    (hρ : ∀ (i : Nat) (a : AV) (u : Value), args[i]? = some a → vs[i]? = some u → R w G φ A a u) (h : evalBuiltin E b tys args H = some (z, H')) :
    QRes w G φ A H H' ((builtin b tys ty consts vs).run P w) z := by
  unfold evalBuiltin at h
  split at h
  · rename_i x
    obtain ⟨a, rfl⟩ : ∃ a, vs = #[a] := by
      have h1 : vs.size = 1 := hl.symm
      exact ⟨vs[0], by apply Array.ext; simp [h1]; intro i h1 h2; simp at h2; subst h2; rfl⟩
    have hx := hρ 0 x a rfl rfl
    split at h
    · rename_i ti n ht hn
      obtain ⟨t, h0, ht⟩ := Option.bind_eq_some_iff.1 ht
      have key : ∀ {q : AV × Heap}, some q = some (z, H') → q = (AV.int .i64 n, H) → ((∃ e, ti.und = .sl e ∧ ∀ s, x ≠ .str s) ∨ (ti.und = .str ∧ ∃ s, x = .str s)) → QRes w G φ A H H' ((builtin .len tys ty consts #[a]).run P w) z := by
        intro q hq hqe hu
        subst hqe
        simp only [Option.some.injEq, Prod.mk.injEq] at hq
        obtain ⟨rfl, rfl⟩ := hq
        have := v_len (tys := tys) (ty := ty) hE h0 hx hX hn ht hu
        exact QRes.val hst (by simp [builtin, this]) (.fr _ _ (.int _ _))
      split at h
      · rename_i s hu
        exact key h rfl (.inr ⟨hu, s, rfl⟩)
      · simp at h
      · rename_i e hu hne
        exact key h rfl (.inl ⟨e, hu, fun s hs => hne s hs⟩)
      · simp at h
    · simp at h
  · rename_i s x
    obtain ⟨a, b, rfl⟩ : ∃ a b, vs = #[a, b] := by
      have h1 : vs.size = 2 := hl.symm
      exact ⟨vs[0], vs[1], by apply Array.ext; simp [h1]; intro i h1 h2; simp at h2; rcases i with _ | _ | i; rfl; rfl; omega⟩
    have hs := hρ 0 s a rfl rfl
    have hx := hρ 1 x b rfl rfl
    have hs0 : s = .nil ∨ s = .e0 := by
      cases s <;> first | exact .inl rfl | exact .inr rfl | (simp [quietBuiltin] at hq)
    split at h
    · rename_i t h0
      split at h
      · rename_i te tx hte htx
        obtain ⟨t2, h1, htx⟩ := Option.bind_eq_some_iff.1 htx
        split at h
        · simp at h
        · rename_i hne
          exact q_append0 hE hst hX hX' hnew h0 h1 hte htx (fun k hk => hne k hk) hs hx hs0 h
      · simp at h
    · simp at h
  · simp [quietBuiltin] at hq
  · simp [quietBuiltin] at hq
  · split at h
    · rename_i v hv
      simp only [Option.some.injEq, Prod.mk.injEq] at h
      obtain ⟨rfl, rfl⟩ := h
      cases args with
      | nil => simp [minA] at hv
      | cons x rest =>
        obtain ⟨a, us, hus⟩ : ∃ a us, vs.toList = a :: us := by
          cases hvl : vs.toList with
          | nil => have := congrArg List.length hvl; simp at this; simp [this] at hl
          | cons a us => exact ⟨a, us, rfl⟩
        have hlen : rest.length = us.length := by have := congrArg List.length hus; simp at this; simp at hl; omega
        have hget : ∀ (i : Nat) (u : Value), (a :: us)[i]? = some u → vs[i]? = some u := fun i u hu => by rw [← hus] at hu; simpa using hu
        obtain ⟨u, hu, hz⟩ := minmax_ok (P := P) (op := Builtin.min2) (f := fun a b => match a, b with | .int k x, .int _ y => some (.int k (if y < x then y else x)) | _, _ => none) (fun a b x y z ha hb hf => by
          split at hf
          · have e1 := ha.int_inv; have e2 := hb.int_inv; subst e1; subst e2
            simp only [Option.some.injEq] at hf; subst hf
            exact ⟨_, by simp [Builtin.min2], .fr _ _ (.int _ _)⟩
          · simp at hf) rest us x a v hlen (fun i p q hp hq => hρ (i + 1) p q hp (hget (i + 1) q hq)) (hρ 0 x a rfl (hget 0 a rfl)) hv
        exact QRes.val hst (by simp [builtin, Builtin.min_, hus, hu]) hz
    · simp at h
  · split at h
    · rename_i v hv
      simp only [Option.some.injEq, Prod.mk.injEq] at h
      obtain ⟨rfl, rfl⟩ := h
      cases args with
      | nil => simp [maxA] at hv
      | cons x rest =>
        obtain ⟨a, us, hus⟩ : ∃ a us, vs.toList = a :: us := by
          cases hvl : vs.toList with
          | nil => have := congrArg List.length hvl; simp at this; simp [this] at hl
          | cons a us => exact ⟨a, us, rfl⟩
        have hlen : rest.length = us.length := by have := congrArg List.length hus; simp at this; simp at hl; omega
        have hget : ∀ (i : Nat) (u : Value), (a :: us)[i]? = some u → vs[i]? = some u := fun i u hu => by rw [← hus] at hu; simpa using hu
        obtain ⟨u, hu, hz⟩ := minmax_ok (P := P) (op := Builtin.max2) (f := fun a b => match a, b with | .int k x, .int _ y => some (.int k (if y > x then y else x)) | _, _ => none) (fun a b x y z ha hb hf => by
          split at hf
          · have e1 := ha.int_inv; have e2 := hb.int_inv; subst e1; subst e2
            simp only [Option.some.injEq] at hf; subst hf
            exact ⟨_, by simp [Builtin.max2], .fr _ _ (.int _ _)⟩
          · simp at hf) rest us x a v hlen (fun i p q hp hq => hρ (i + 1) p q hp (hget (i + 1) q hq)) (hρ 0 x a rfl (hget 0 a rfl)) hv
        exact QRes.val hst (by simp [builtin, Builtin.max_, hus, hu]) hz
    · simp at h
  · simp at h
end ops

section step
variable {P : Program} {C : Ctx} {X : CallRel} {w : World} {G : Heap} {φ : Phi} {A : Avoid}

theorem QRes.upon {H H' : Heap} {r : Result Next} {x : AV} (h : QRes w G φ A H H' r x) {o : Oper} {a : Act} {next : Act → World → Prop} {Q : Exit → Act → World → Prop}
    (hn : ∀ v w' φ' A', Out w G φ A w' G φ' A' → R w' G φ' A' x v → (∀ id loc, φ' id = some loc → φ id = some loc ∨ (H.bs.length ≤ id ∧ id < H'.bs.length)) → next (a.put o.dst v) w') : o.upon P a next Q r := by
  obtain ⟨n, v, w', φ', A', rfl, hv, hr, ho, hi⟩ := h
  rcases hv with rfl | ⟨rfl, rfl⟩
  · exact hn v w' φ' A' ho hr hi
  · exact hn _ w' φ' A' ho hr hi

/-- One quiet operation. -/
theorem stepQ (hE : ∀ t ti, C.E t = some ti → TyOK P t ti) (hX : ∀ f ys H K, X f ys H K → Sim P f ys H K) (hst : St w G φ A) {o : Oper} {s : Frm} {a : Act} (hs : ∀ x ∈ o.op.operands, R w G φ A (ev s x) (a.eval x)) {th : Bool} {H H' : Heap} {x : AV} (hg : Ext H G) (hh : GH G φ H H')
    (h : wpOp X C true th o s H (fun v1 H1 => v1 = x ∧ H1 = H')) {next : Act → World → Prop} {Q : Exit → Act → World → Prop}
    (hn : ∀ v w' φ' A', Out w G φ A w' G φ' A' → R w' G φ' A' x v → (∀ id loc, φ' id = some loc → φ id = some loc ∨ (H.bs.length ≤ id ∧ id < H'.bs.length)) → next (a.put o.dst v) w') : o.wp P a w next Q := by
  have hnew : H.bs.length < H'.bs.length → φ H.bs.length = none := fun hlt => hh.none _ (Nat.le_refl _) hlt
  have hany : quietOp o.op = true → (match evalOp C.E o.op s H with | some (v, H1) => v = x ∧ H1 = H' | none => False) → o.wp P a w next Q := by
    intro hq hh'
    split at hh'
    · rename_i v H1 he
      obtain ⟨rfl, rfl⟩ := hh'
      exact (simQuiet hE hst hg hh.ext hnew hq hs he).upon hn
    · exact hh'.elim
  unfold wpOp at h
  split at h
  · rename_i b args tys hop
    obtain ⟨hq, h⟩ := h
    have hq := hq rfl
    split at h
    · rename_i v H1 he
      obtain ⟨rfl, rfl⟩ := h
      obtain ⟨consts, hrun⟩ := run_builtin (P := P) (w := w) (ρ := a.eval) hop
      have := simBuiltinQ hE hst hg hh.ext hnew (ty := o.type) (consts := consts) (vs := args.map a.eval) hq (by simp) (fun i x u hx hu => by
        simp only [List.getElem?_map, Option.map_eq_some_iff] at hx
        obtain ⟨y, hy, rfl⟩ := hx
        simp only [Array.getElem?_map, Option.map_eq_some_iff] at hu
        obtain ⟨y', hy', rfl⟩ := hu
        have : y' = y := by simp at hy; rw [hy] at hy'; simpa using hy'.symm
        subst this
        exact hs y' (by rw [hop]; simp only [Op.operands, Call.operands]; simp [Array.mem_of_getElem? hy'])) he
      rw [← hrun] at this
      exact this.upon hn
    · exact h.elim
  · rename_i y args tys hop
    split at h
    · rename_i g caps hg'
      simp only [if_true] at h
      have hx := hs y (by rw [hop]; simp [Op.operands, Call.operands])
      rw [hg'] at hx
      obtain ⟨vs, hv, hl, hp⟩ := hx.fn_inv
      have hc := callSimG hX hst hg hh (us := args.map a.eval ++ vs) (by simp [hl]) (fun i y u hy hu => by
        rcases Nat.lt_or_ge i args.size with hi | hi
        · rw [List.getElem?_append_left (by simpa using hi)] at hy
          rw [Array.getElem?_append_left (by simpa using hi)] at hu
          simp only [List.getElem?_map, Option.map_eq_some_iff] at hy
          obtain ⟨z, hz, rfl⟩ := hy
          simp only [Array.getElem?_map, Option.map_eq_some_iff] at hu
          obtain ⟨z', hz', rfl⟩ := hu
          have : z' = z := by simp at hz; rw [hz] at hz'; simpa using hz'.symm
          subst this
          exact hs z' (by rw [hop]; simp only [Op.operands, Call.operands]; simp [Array.mem_of_getElem? hz'])
        · rw [List.getElem?_append_right (by simpa using hi)] at hy
          rw [Array.getElem?_append_right (by simpa using hi)] at hu
          exact hp _ y u (by simpa using hy) (by simpa using hu)) h
      unfold Oper.wp
      rw [run_call hop hv hc.1, Oper.upon_enter]
      refine hc.2.mono fun e w' he => ?_
      cases e with
      | returned v' =>
        obtain ⟨φ', A', h1, h2, h3⟩ := he
        exact hn v' w' φ' A' h1 h2 h3
      | panicked c => exact he.elim
      | outgrown => exact he.elim
    · exact h.elim
  · exact hany (h.1 rfl) h.2

/-- What a quiet operation does to the heap. -/
theorem wpOp_qg {o : Oper} {s : Frm} {th : Bool} {H H' : Heap} {x : AV} (h : wpOp X C true th o s H (fun v1 H1 => v1 = x ∧ H1 = H')) : QG H H' := by
  have hany : quietOp o.op = true → (match evalOp C.E o.op s H with | some (v, H1) => v = x ∧ H1 = H' | none => False) → QG H H' := by
    intro hq hh'
    split at hh'
    · rename_i v H1 he
      obtain ⟨rfl, rfl⟩ := hh'
      exact .of (evalOp_ext hq he)
    · exact hh'.elim
  unfold wpOp at h
  split at h
  · obtain ⟨hq, h⟩ := h
    split at h
    · rename_i v H1 he
      obtain ⟨rfl, rfl⟩ := h
      exact quietBuiltin_qg (hq rfl) he
    · exact h.elim
  · split at h
    · rename_i g caps hg'
      simp only [if_true] at h
      unfold wpCallQ at h
      split at h
      · exact h.elim
      obtain ⟨y, _, _, hp⟩ := h
      split at hp
      · obtain ⟨_, rfl⟩ := hp; exact thawV_qg _ _
      · obtain ⟨_, rfl⟩ := hp; exact .refl _
    · exact h.elim
  · exact hany (h.1 rfl) h.2
end step
end Go.VS
