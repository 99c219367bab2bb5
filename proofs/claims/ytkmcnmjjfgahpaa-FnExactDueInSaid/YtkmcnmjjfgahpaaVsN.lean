/-
  VS, part 14: all quiet operations in one theorem.
-/
import Derived.Test.YtkmcnmjjfgahpaaVsM
namespace Go.VS

section ops
variable {P : Program} {E : TEnv} (hE : ∀ t ti, E t = some ti → TyOK P t ti)
variable {w : World} {G : Heap} {φ : Phi} {A : Avoid}

theorem QRes.ofVal {H0 H' : Heap} {sv : Sem Value} {x : AV} (hst : St w G φ A) (h : ∃ v, sv.run P w = .ok v w ∧ R w G φ A x v) : QRes w G φ A H0 H' ((do pure (.value (← sv)) : Sem Next).run P w) x := by
  obtain ⟨v, hv, hx⟩ := h
  exact QRes.val hst (by simp [hv]) hx

include hE in
theorem simQuiet {H0 H' : Heap} (hst : St w G φ A) (hX0 : Ext H0 G) (hX : Ext H' G) (hnew : H0.bs.length < H'.bs.length → φ H0.bs.length = none) {o : Oper} {s : Frm} {ρ : Operand → Value} {z : AV} (hq : quietOp o.op = true)
    (hρ : ∀ y ∈ o.op.operands, R w G φ A (ev s y) (ρ y)) (h : evalOp E o.op s H0 = some (z, H')) : QRes w G φ A H0 H' ((execOp ρ o).run P w) z := by
  obtain ⟨dst, op, type, pos, after, guard⟩ := o
  simp only at hq hρ h
  cases op with
  | move x =>
    simp only [evalOp, Option.some.injEq, Prod.mk.injEq] at h
    obtain ⟨rfl, rfl⟩ := h
    exact QRes.val hst rfl (hρ x (by simp [Op.operands]))
  | assign x =>
    simp only [evalOp, Option.some.injEq, Prod.mk.injEq] at h
    obtain ⟨rfl, rfl⟩ := h
    exact QRes.val hst rfl (hρ x (by simp [Op.operands]))
  | pick c a b =>
    have hc := hρ c (by simp [Op.operands])
    have ha := hρ a (by simp [Op.operands])
    have hb := hρ b (by simp [Op.operands])
    simp only [evalOp] at h
    split at h
    · rename_i t ht
      rw [ht] at hc
      have e1 := hc.bool_inv
      simp only [Option.some.injEq, Prod.mk.injEq] at h
      obtain ⟨rfl, rfl⟩ := h
      refine QRes.val hst (v := if t then ρ a else ρ b) (by simp [execOp, asBool, e1]) ?_
      cases t
      · exact hb
      · exact ha
    · simp at h
  | binOp op t x y ty =>
    have hx := hρ x (by simp [Op.operands])
    have hy := hρ y (by simp [Op.operands])
    simp only [evalOp] at h
    have key : ∀ z, binA E op t (ev s x) (ev s y) = some z → ((∃ u, y = .const u) ∨ ∀ e, ev s y ≠ .errv e) → QRes w G φ A H0 H0 ((execOp ρ { dst, op := .binOp op t x y ty, type, pos, after, guard }).run P w) z :=
      fun z hz hc => QRes.ofVal hst (bin_ok hE hx hy x y hc hz)
    split at h
    · rename_i u
      split at h
      · rename_i v hv
        simp only [Option.some.injEq, Prod.mk.injEq] at h
        obtain ⟨rfl, rfl⟩ := h
        exact key _ hv (.inl ⟨u, rfl⟩)
      · simp at h
    · split at h
      · simp at h
      · rename_i he
        split at h
        · rename_i v hv
          simp only [Option.some.injEq, Prod.mk.injEq] at h
          obtain ⟨rfl, rfl⟩ := h
          exact key _ hv (.inr he)
        · simp at h
  | unOp op t x =>
    have hx := hρ x (by simp [Op.operands])
    simp only [evalOp] at h
    split at h
    · rename_i v hv
      simp only [Option.some.injEq, Prod.mk.injEq] at h
      obtain ⟨rfl, rfl⟩ := h
      exact QRes.ofVal hst (un_ok P hx hv)
    · simp at h
  | extract x i =>
    have hx := hρ x (by simp [Op.operands])
    simp only [evalOp] at h
    split at h
    · rename_i vs hvs
      rw [hvs] at hx
      obtain ⟨us, hus, hl, hp⟩ := hx.tup_inv
      split at h
      · rename_i v hv
        simp only [Option.some.injEq, Prod.mk.injEq] at h
        obtain ⟨rfl, rfl⟩ := h
        have hi : i < us.size := by rw [← hl]; exact (List.getElem?_eq_some_iff.1 hv).1
        exact QRes.ofVal hst ⟨us[i], by simp [Instr.extract, hus, Array.getElem?_eq_getElem hi], hp i _ _ hv (Array.getElem?_eq_getElem hi)⟩
      · simp at h
    · simp at h
  | nilCheck x =>
    have hx := hρ x (by simp [Op.operands])
    simp only [evalOp] at h
    split at h
    · rename_i a b c d hv
      rw [hv] at hx
      split at h
      · rename_i bl hb
        simp only [Option.some.injEq, Prod.mk.injEq] at h
        obtain ⟨rfl, rfl⟩ := h
        obtain ⟨_, _, hp⟩ := hx.ptr_inv
        obtain ⟨c0, b0, _, hvv⟩ := hp _ (hX0.blk hb)
        exact QRes.val hst (by simp only [execOp, hvv]; rfl) (by rw [hvv] at hx; exact hx)
      · simp at h
    · rename_i y o hv
      rw [hv] at hx
      simp only [Option.some.injEq, Prod.mk.injEq] at h
      obtain ⟨rfl, rfl⟩ := h
      obtain ⟨c, p, arr, T, fr, hvv, _⟩ := fe_inv hx.fe_inv
      exact QRes.val hst (by simp only [execOp, hvv]; rfl) (by rw [hvv] at hx; exact hx)
    · simp at h
  | convert src dst x =>
    have hx := hρ x (by simp [Op.operands])
    simp only [evalOp] at h
    exact q_convert hE hst hX0 hX hnew hx h
  | field t x f =>
    have hx := hρ x (by simp [Op.operands])
    simp only [evalOp] at h
    exact QRes.ofVal hst (q_field hE hx h)
  | fieldAddr t x f =>
    have hx := hρ x (by simp [Op.operands])
    simp only [evalOp] at h
    exact QRes.ofVal hst (q_fieldAddr hE hX0 hx h)
  | indexAddr t x i =>
    have hx := hρ x (by simp [Op.operands])
    have hi := hρ i (by simp [Op.operands])
    simp only [evalOp] at h
    exact QRes.ofVal hst (q_indexAddr hE hX0 hx hi h)
  | index t x i =>
    have hx := hρ x (by simp [Op.operands])
    have hi := hρ i (by simp [Op.operands])
    simp only [evalOp] at h
    exact QRes.ofVal hst (q_index hE hx hi h)
  | load t x =>
    have hx := hρ x (by simp [Op.operands])
    simp only [evalOp] at h
    exact QRes.ofVal hst (q_load hE hst hX0 hx h)
  | alloc t =>
    simp only [evalOp] at h
    exact q_alloc hE hst hX hnew h
  | box t x =>
    have hx := hρ x (by simp [Op.operands])
    simp only [evalOp] at h
    exact q_box hE hst hX hnew hx h
  | build t parts =>
    have hp : ∀ p ∈ parts.toList, R w G φ A (ev s p.2) (ρ p.2) := fun p hp => hρ p.2 (by simp [Op.operands]; exact ⟨p.1, by simpa using hp⟩)
    simp only [evalOp] at h
    exact QRes.ofVal hst (q_build hE hp h)
  | buildSlice t len parts =>
    have hp : ∀ p ∈ parts.toList, R w G φ A (ev s p.2) (ρ p.2) := fun p hp => hρ p.2 (by simp [Op.operands]; exact ⟨p.1, by simpa using hp⟩)
    simp only [evalOp] at h
    exact q_buildSlice hE hst hX hnew hp h
  | makeSlice t l c =>
    have hl := hρ l (by simp [Op.operands])
    have hc := hρ c (by simp [Op.operands])
    simp only [evalOp] at h
    exact q_makeSlice hE hst hX hnew hl hc h
  | slice t x lo hi mx =>
    have hx := hρ x (by simp [Op.operands])
    have bok : ∀ (q : Option Operand) (r : Option Int), (∀ y, q = some y → R w G φ A (ev s y) (ρ y)) → intOp (q.map (ev s)) = some r → BOK r (q.map ρ) := by
      intro q r hq hr
      refine bok_of (w := w) (G := G) (φ := φ) (A := A) hr ?_
      cases q with
      | none => exact .inl ⟨rfl, rfl⟩
      | some y => exact .inr ⟨_, _, rfl, rfl, hq y rfl⟩
    simp only [evalOp] at h
    split at h
    · rename_i l' h' m' e1 e2 e3
      split at h
      · rename_i v hv
        simp only [Option.some.injEq, Prod.mk.injEq] at h
        obtain ⟨rfl, rfl⟩ := h
        refine QRes.ofVal hst (q_slice hE hX0 hx (bok lo l' (fun y hy => hρ y ?_) e1) (bok hi h' (fun y hy => hρ y ?_) e2) (bok mx m' (fun y hy => hρ y ?_) e3) hv) <;> simp [Op.operands, hy]
      · simp at h
    · simp at h
  | makeFunc fn first cap =>
    cases fn with
    | func f =>
      simp only [evalOp] at h
      split at h
      · rename_i hf
        simp only [Option.some.injEq, Prod.mk.injEq] at h
        obtain ⟨rfl, rfl⟩ := h
        have hfe : first = #[] := Array.eq_empty_of_size_eq_zero hf
        subst hfe
        refine QRes.ofVal hst ⟨.func (.func f) #[] (cap.map ρ), by simp [Instr.makeFunc], R.fn f (cap.toList.map (ev s)) (cap.map ρ) (by simp) fun i x v hx hv => ?_⟩
        simp only [List.getElem?_map, Option.map_eq_some_iff, Array.getElem?_map, Array.getElem?_toList] at hx hv
        obtain ⟨y, hy, rfl⟩ := hx
        obtain ⟨y', hy', rfl⟩ := hv
        rw [hy] at hy'
        simp only [Option.some.injEq] at hy'; subst hy'
        exact hρ y (by simp [Op.operands]; exact Array.mem_of_getElem? hy)
      · simp at h
    | _ => simp [evalOp] at h
  | _ => simp [quietOp] at hq
end ops
end Go.VS
