/-
  VS, part 30: one operation of a region.
-/
import Derived.Test.YtkmcnmjjfgahpaaVtC
namespace Go.VS

section ops
variable {P : Program} {C : Ctx} {X : CallRel} {w : World} {H : Heap} {φ : Phi} {A : Avoid}

theorem run_callFunc {f : FuncId} (h : Callable P f) (args : Array Value) (w : World) : (callFunc f args).run P w = .ok (.enter f args) w := by
  obtain ⟨fn, h1, h2, h3⟩ := h
  have h2' : fn.name ≠ "runtime.NumGoroutine" := by simpa using h2
  have h3' : fn.body ≠ none := by intro e; rw [e] at h3; simp at h3
  simp [callFunc, h1, h2', h3']

theorem run_call {o : Oper} {ρ : Operand → Value} {x : Operand} {args : Array Operand} {tys : Array TypeId} (ho : o.op = .call { callee := .value x, args, argTypes := tys }) {g : FuncId} {caps : Array Value} (hx : ρ x = .func (.func g) #[] caps) (hc : Callable P g) :
    (execOp ρ o).run P w = .ok (.enter g (args.map ρ ++ caps)) w := by
  simp [execOp, ho, resolve, hx, Deferred.ofValue, invoke, run_callFunc hc]

theorem run_builtin {o : Oper} {ρ : Operand → Value} {b : Builtin} {args : Array Operand} {tys : Array TypeId} (ho : o.op = .call { callee := .builtin b, args, argTypes := tys }) :
    ∃ consts, (execOp ρ o).run P w = (builtin b tys o.type consts (args.map ρ)).run P w :=
  ⟨_, by simp only [execOp, ho, resolve, invoke, Sem.run_bind, Sem.run_pure, Result.andThen_ok]; rfl⟩

theorem MRes.upon {H' : Heap} {r : Result Next} {x : AV} (h : MRes w H φ A H' r x) {o : Oper} {a : Act} {next : Act → World → Prop} {Q : Exit → Act → World → Prop}
    (hn : ∀ v w' φ' A', Out w H φ A w' H' φ' A' → R w' H' φ' A' x v → next (a.put o.dst v) w') : o.upon P a next Q r := by
  obtain ⟨n, v, w', φ', A', rfl, hv, hr, ho⟩ := h
  rcases hv with rfl | ⟨rfl, rfl⟩
  · exact hn v w' φ' A' ho hr
  · exact hn _ w' φ' A' ho hr

theorem opSim (hE : ∀ t ti, C.E t = some ti → TyOK P t ti) (hX : ∀ f ys H K, X f ys H K → Sim P f ys H K) (hst : St w H φ A) {o : Oper} {s : Frm} {a : Act} (hs : ∀ x ∈ o.op.operands, R w H φ A (ev s x) (a.eval x)) {th : Bool} {K : AV → Heap → Prop} (h : wpOp X C false th o s H K)
    {next : Act → World → Prop} {Q : Exit → Act → World → Prop} (hn : ∀ x v w' H' φ' A', Out w H φ A w' H' φ' A' → R w' H' φ' A' x v → K x H' → next (a.put o.dst v) w') : o.wp P a w next Q := by
  have hany : ∀ (hh : (match evalOp C.E o.op s H with | some (v, H') => K v H' | none => False)), o.wp P a w next Q := by
    intro hh
    split at hh
    · rename_i v H' he
      exact (simOp hE hst hs he).upon (fun u w' φ' A' h1 h2 => hn v u w' H' φ' A' h1 h2 hh)
    · exact hh.elim
  unfold wpOp at h
  split at h
  · rename_i b args tys hop
    obtain ⟨_, h⟩ := h
    split at h
    · rename_i v H' he
      obtain ⟨consts, hrun⟩ := run_builtin (P := P) (w := w) (ρ := a.eval) hop
      have := simBuiltin hE hst (ty := o.type) (consts := consts) (vs := args.map a.eval) (by simp) (fun i x u hx hu => by
        simp only [List.getElem?_map, Option.map_eq_some_iff] at hx
        obtain ⟨y, hy, rfl⟩ := hx
        simp only [Array.getElem?_map, Option.map_eq_some_iff] at hu
        obtain ⟨y', hy', rfl⟩ := hu
        have : y' = y := by simp at hy; rw [hy] at hy'; simpa using hy'.symm
        subst this
        exact hs y' (by rw [hop]; simp only [Op.operands, Call.operands]; simp [Array.mem_of_getElem? hy'])) he
      rw [← hrun] at this
      exact this.upon (fun u w' φ' A' h1 h2 => hn v u w' H' φ' A' h1 h2 h)
    · exact h.elim
  · rename_i x args tys hop
    split at h
    · rename_i g caps hg
      simp only [Bool.false_eq_true, if_false] at h
      have hx := hs x (by rw [hop]; simp [Op.operands, Call.operands])
      rw [hg] at hx
      obtain ⟨vs, hv, hl, hp⟩ := hx.fn_inv
      have hargs : ∀ (i : Nat) (y : AV) (u : Value), (args.toList.map (ev s) ++ caps)[i]? = some y → (args.map a.eval ++ vs)[i]? = some u → R w H φ A y u := fun i y u hy hu => by
        rcases Nat.lt_or_ge i args.size with hi | hi
        · rw [List.getElem?_append_left (by simpa using hi)] at hy
          rw [Array.getElem?_append_left (by simpa using hi)] at hu
          simp only [List.getElem?_map, Option.map_eq_some_iff] at hy
          obtain ⟨z, hz, rfl⟩ := hy
          simp only [Array.getElem?_map, Option.map_eq_some_iff] at hu
          obtain ⟨z', hz', rfl⟩ := hu
          have : z' = z := by simp at hz; rw [hz] at hz'; simpa using hz'.symm
          subst this
          exact hs z' (by rw [hop]; simp only [Op.operands, Call.operands]; simp [Array.mem_of_getElem? hz'])
        · rw [List.getElem?_append_right (by simpa using hi)] at hy
          rw [Array.getElem?_append_right (by simpa using hi)] at hu
          exact hp _ y u (by simpa using hy) (by simpa using hu)
      have hc : Callable P g ∧ Calls P g (args.map a.eval ++ vs) w (CRes w H φ A K) := by
        rcases h with h | h
        · exact ⟨(hX _ _ _ _ h).1, (hX _ _ _ _ h).2 w A φ (args.map a.eval ++ vs) hst (by simp [hl]) hargs⟩
        · exact callSimQ hX hst (us := args.map a.eval ++ vs) (by simp [hl]) hargs h
      unfold Oper.wp
      rw [run_call hop hv hc.1, Oper.upon_enter]
      refine hc.2.mono fun e w' he => ?_
      cases e with
      | returned v' =>
        obtain ⟨x', H', φ', A', h1, h2, h3⟩ := he
        exact hn x' v' w' H' φ' A' h1 h2 h3
      | panicked c => exact he.elim
      | outgrown => exact he.elim
    · exact h.elim
  · exact hany h.2
end ops
end Go.VS
