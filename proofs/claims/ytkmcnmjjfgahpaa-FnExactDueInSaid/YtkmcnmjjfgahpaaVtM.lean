/-
  VS, part 39: rules for what is shown of a call.
-/
import Derived.Test.YtkmcnmjjfgahpaaVtL
namespace Go.VS

section mono
variable {X X' : CallRel} {C : Ctx} (hX : ∀ f ys H (K K' : AV → Heap → Prop), (∀ v H, K v H → K' v H) → X f ys H K → X' f ys H K')
include hX

theorem wpCallQ_mono {f : FuncId} {args : List AV} {th : Bool} {H : Heap} {K K' : AV → Heap → Prop} (hK : ∀ v H, K v H → K' v H) (h : wpCallQ X C f args th H K) : wpCallQ X' C f args th H K' := by
  unfold wpCallQ at h ⊢
  split at h
  · exact h.elim
  rename_i ys lent hy
  obtain ⟨y, h1, h2, h3⟩ := h
  refine ⟨y, hX _ _ _ _ _ (fun _ _ h => h) h1, h2, ?_⟩
  split at h3
  · rename_i ht; rw [if_pos ht]; exact hK _ _ h3
  · rename_i ht; rw [if_neg ht]; exact hK _ _ h3

theorem wpOp_mono' {q th : Bool} {o : Oper} {s : Frm} {H : Heap} {K K' : AV → Heap → Prop} (hK : ∀ v H, K v H → K' v H) (h : wpOp X C q th o s H K) : wpOp X' C q th o s H K' := by
  unfold wpOp at h ⊢
  split at h
  · obtain ⟨hq, h⟩ := h
    refine ⟨hq, ?_⟩
    split at h
    · exact hK _ _ h
    · exact h.elim
  · split at h
    · cases q with
      | true => exact wpCallQ_mono hX hK h
      | false =>
        rcases h with h | h
        · exact .inl (hX _ _ _ _ _ hK h)
        · exact .inr (wpCallQ_mono hX hK h)
    · exact h.elim
  · obtain ⟨hq, h⟩ := h
    refine ⟨hq, ?_⟩
    split at h
    · exact hK _ _ h
    · exact h.elim

omit hX in
theorem lateAll_mono {ops : Array Oper} {s : Frm} {H : Heap} {K K' : Prop} (hK : K → K') : ∀ (l : List Nat), lateAll C ops s H K l → lateAll C ops s H K' l
  | [], h => hK h
  | _j :: js, h => ⟨h.1, lateAll_mono hK js h.2⟩

theorem wpOpsA_mono {ops : Array Oper} {q : Nat → Bool} {late : Nat → List Nat} {th : List Nat} {K K' : Frm → Heap → Prop} (hK : ∀ s H, K s H → K' s H) : ∀ (l : List Oper) (i : Nat) (s : Frm) (H : Heap), wpOpsA X C ops q late th K l i s H → wpOpsA X' C ops q late th K' l i s H
  | [], i, s, H, h => hK s H h
  | o :: rest, i, s, H, h => by
    simp only [wpOpsA] at h ⊢
    cases hg : o.guard with
    | none =>
      rw [hg] at h
      exact wpOp_mono' hX (fun v H' hv => lateAll_mono (wpOpsA_mono hK rest (i + 1) _ _) _ hv) h
    | some p =>
      rw [hg] at h
      obtain ⟨v, H', h1, h2⟩ := h
      refine ⟨v, H', ?_, lateAll_mono (wpOpsA_mono hK rest (i + 1) _ _) _ h2⟩
      split at h1
      · split at h1
        · rename_i hb; simp only [hb, if_true]; exact wpOp_mono' hX (fun _ _ h => h) h1
        · rename_i hb; simp only [hb]; exact h1
      · exact h1.elim

theorem wpOpsN_mono {ops : Array Oper} {th : List Nat} {fz : List (Nat × List (List Nat × List Sh))} {K K' : Frm → Heap → Prop} (hK : ∀ s H, K s H → K' s H) : ∀ (l : List Oper) (i : Nat) (s : Frm) (H : Heap), wpOpsN X C ops th fz K l i s H → wpOpsN X' C ops th fz K' l i s H
  | [], i, s, H, h => hK s H h
  | o :: rest, i, s, H, h => by
    simp only [wpOpsN] at h ⊢
    obtain ⟨s1, H1, hf, h⟩ := h
    refine ⟨s1, H1, hf, ?_⟩
    cases hg : o.guard with
    | none =>
      rw [hg] at h
      exact wpOp_mono' hX (fun v H' hv => wpOpsN_mono hK rest (i + 1) _ _ hv) h
    | some p =>
      rw [hg] at h
      obtain ⟨v, H', h1, h2⟩ := h
      refine ⟨v, H', ?_, wpOpsN_mono hK rest (i + 1) _ _ h2⟩
      split at h1
      · split at h1
        · rename_i hb; simp only [hb, if_true]; exact wpOp_mono' hX (fun _ _ h => h) h1
        · rename_i hb; simp only [hb]; exact h1
      · exact h1.elim

theorem wpC_mono : ∀ (c : AC) (s : Frm) (H : Heap) (K K' : Ex → Frm → Heap → Prop), (∀ e s H, K e s H → K' e s H) → wpC X C c s H K → wpC X' C c s H K' := by
  intro c
  induction c with
  | skip => intro s H K K' hK h; exact hK _ _ _ h
  | ret => intro s H K K' hK h; exact hK _ _ _ h
  | exit id => intro s H K K' hK h; exact hK _ _ _ h
  | seq a b iha ihb =>
    intro s H K K' hK h
    simp only [wpC] at h ⊢
    refine iha s H _ _ (fun e s' H' h => ?_) h
    cases e with
    | normal => exact ihb s' H' K K' hK h
    | exit id => exact hK _ _ _ h
    | ret => exact hK _ _ _ h
  | cond c a b iha ihb =>
    intro s H K K' hK h
    simp only [wpC] at h ⊢
    split at h
    · split at h
      · rename_i hb; simp only [hb, if_true]; exact iha s H K K' hK h
      · rename_i hb; simp only [hb]; exact ihb s H K K' hK h
    · exact h.elim
  | block id keep a ih =>
    intro s H K K' hK h
    simp only [wpC] at h ⊢
    refine ih s H _ _ (fun e s' H' h => ?_) h
    cases e with
    | normal => exact hK _ _ _ h
    | ret => exact hK _ _ _ h
    | exit j =>
      simp only at h ⊢
      split at h
      · rename_i hj; rw [if_pos hj]; exact hK _ _ _ h
      · rename_i hj; rw [if_neg hj]; exact hK _ _ _ h
  | loop sp a ih =>
    intro s H K K' hK h
    simp only [wpC] at h ⊢
    intro Y hY
    refine h Y fun s' H' hB => hY s' H' (ih s' H' _ _ (fun e s2 H2 h => ?_) hB)
    cases e with
    | normal => exact h
    | exit id => exact hK _ _ _ h
    | ret => exact hK _ _ _ h
  | region id ops draw louds th fz =>
    intro s H K K' hK h
    cases draw with
    | true =>
      simp only [wpC] at h ⊢
      exact ⟨h.1, wpOpsA_mono hX (fun s H h => hK _ s H h) _ _ _ _ h.2⟩
    | false =>
      simp only [wpC] at h ⊢
      exact wpOpsN_mono hX (fun s H h => hK _ s H h) _ _ _ _ h
  | frz l kp =>
    intro s H K K' hK h
    simp only [wpC] at h ⊢
    split at h
    · exact hK _ _ _ h
    · exact h
  | bad => intro s H K K' hK h; exact h
end mono

/-- A relation that may be asked for less. -/
def Up (X : CallRel) : Prop := ∀ f ys H (K K' : AV → Heap → Prop), (∀ v H, K v H → K' v H) → X f ys H K → X f ys H K'

/-- One round of a loop. -/
theorem LoopP.round {X : CallRel} (hU : Up X) {C : Ctx} {c : AC} {next : Frm → Heap → Frm × Heap} {K : Ex → Frm → Heap → Prop} {s : Frm} {H : Heap}
    (h : wpC X C c s H (fun e s' H' => match e with
      | .normal => LoopP (wpC X C c) next K (next s' H').1 (next s' H').2
      | e => K e s' H')) : LoopP (wpC X C c) next K s H := by
  intro Y hY
  refine hY s H (wpC_mono hU c s H _ _ (fun e s' H' h => ?_) h)
  cases e with
  | normal => exact h Y hY
  | exit id => exact h
  | ret => exact h

/-- What a piece of code comes to is one thing. -/
theorem wpOpsA_exact {X : CallRel} {C : Ctx} (hU : Up X) (hXe : Exact X) {ops : Array Oper} {q : Nat → Bool} {late : Nat → List Nat} {th : List Nat} {K : Frm → Heap → Prop} : ∀ (l : List Oper) (i : Nat) (s : Frm) (H : Heap), wpOpsA X C ops q late th K l i s H → ∃ s' H', wpOpsA X C ops q late th (fun s1 H1 => s1 = s' ∧ H1 = H') l i s H ∧ K s' H'
  | [], i, s, H, h => ⟨s, H, ⟨rfl, rfl⟩, h⟩
  | o :: rest, i, s, H, h => by
    have late_ex : ∀ (ls : List Nat) (s1 : Frm) (H1 : Heap), lateAll C ops s1 H1 (wpOpsA X C ops q late th K rest (i + 1) s1 H1) ls → ∃ s' H', lateAll C ops s1 H1 (wpOpsA X C ops q late th (fun s1 H1 => s1 = s' ∧ H1 = H') rest (i + 1) s1 H1) ls ∧ K s' H' := by
      intro ls s1 H1 h
      obtain ⟨h1, h2⟩ := lateAll_iff _ _ _ _ _ _ h
      obtain ⟨s', H', h3, h4⟩ := wpOpsA_exact hU hXe rest (i + 1) s1 H1 h2
      refine ⟨s', H', ?_, h4⟩
      clear h h2 h4
      induction ls with
      | nil => exact h3
      | cons j js ih => exact ⟨h1 j (by simp), ih fun k hk => h1 k (by simp [hk])⟩
    simp only [wpOpsA] at h ⊢
    cases hg : o.guard with
    | none =>
      rw [hg] at h
      simp only at h ⊢
      obtain ⟨v, H1, h1, h2⟩ := wpOp_exact hXe h
      obtain ⟨s', H', h3, h4⟩ := late_ex _ _ _ h2
      exact ⟨s', H', wpOp_mono' hU (fun v1 H2 e => by obtain ⟨rfl, rfl⟩ := e; exact h3) h1, h4⟩
    | some p =>
      rw [hg] at h
      simp only at h ⊢
      obtain ⟨v, H1, h1, h2⟩ := h
      obtain ⟨s', H', h3, h4⟩ := late_ex _ _ _ h2
      exact ⟨s', H', ⟨v, H1, h1, h3⟩, h4⟩

theorem wpOpsN_exact {X : CallRel} {C : Ctx} (hU : Up X) (hXe : Exact X) {ops : Array Oper} {th : List Nat} {fz : List (Nat × List (List Nat × List Sh))} {K : Frm → Heap → Prop} : ∀ (l : List Oper) (i : Nat) (s : Frm) (H : Heap), wpOpsN X C ops th fz K l i s H → ∃ s' H', wpOpsN X C ops th fz (fun s1 H1 => s1 = s' ∧ H1 = H') l i s H ∧ K s' H'
  | [], i, s, H, h => ⟨s, H, ⟨rfl, rfl⟩, h⟩
  | o :: rest, i, s, H, h => by
    simp only [wpOpsN] at h ⊢
    obtain ⟨s0, H0, hf, h⟩ := h
    cases hg : o.guard with
    | none =>
      rw [hg] at h
      simp only at h ⊢
      obtain ⟨v, H1, h1, h2⟩ := wpOp_exact hXe h
      obtain ⟨s', H', h3, h4⟩ := wpOpsN_exact hU hXe rest (i + 1) _ _ h2
      exact ⟨s', H', ⟨s0, H0, hf, wpOp_mono' hU (fun v1 H2 e => by obtain ⟨rfl, rfl⟩ := e; exact h3) h1⟩, h4⟩
    | some p =>
      rw [hg] at h
      simp only at h ⊢
      obtain ⟨v, H1, h1, h2⟩ := h
      obtain ⟨s', H', h3, h4⟩ := wpOpsN_exact hU hXe rest (i + 1) _ _ h2
      exact ⟨s', H', ⟨s0, H0, hf, v, H1, h1, h3⟩, h4⟩

theorem wpC_exact {X : CallRel} {C : Ctx} (hU : Up X) (hXe : Exact X) : ∀ (c : AC) (s : Frm) (H : Heap) (K : Ex → Frm → Heap → Prop), wpC X C c s H K → ∃ e s' H', wpC X C c s H (fun e1 s1 H1 => e1 = e ∧ s1 = s' ∧ H1 = H') ∧ K e s' H' := by
  intro c
  induction c with
  | skip => intro s H K h; exact ⟨_, _, _, ⟨rfl, rfl, rfl⟩, h⟩
  | ret => intro s H K h; exact ⟨_, _, _, ⟨rfl, rfl, rfl⟩, h⟩
  | exit id => intro s H K h; exact ⟨_, _, _, ⟨rfl, rfl, rfl⟩, h⟩
  | seq a b iha ihb =>
    intro s H K h
    simp only [wpC] at h ⊢
    obtain ⟨e, s1, H1, h1, h2⟩ := iha s H _ h
    cases e with
    | normal =>
      obtain ⟨e, s2, H2, h3, h4⟩ := ihb s1 H1 K h2
      exact ⟨e, s2, H2, wpC_mono hU a s H _ _ (fun e1 s' H' q => by obtain ⟨rfl, rfl, rfl⟩ := q; exact h3) h1, h4⟩
    | exit id => exact ⟨.exit id, s1, H1, wpC_mono hU a s H _ _ (fun e1 s' H' q => by obtain ⟨rfl, rfl, rfl⟩ := q; exact ⟨rfl, rfl, rfl⟩) h1, h2⟩
    | ret => exact ⟨.ret, s1, H1, wpC_mono hU a s H _ _ (fun e1 s' H' q => by obtain ⟨rfl, rfl, rfl⟩ := q; exact ⟨rfl, rfl, rfl⟩) h1, h2⟩
  | cond c a b iha ihb =>
    intro s H K h
    simp only [wpC] at h ⊢
    split at h
    · split at h
      · rename_i hb; simp only [hb, if_true]; exact iha s H K h
      · rename_i hb; simp only [hb]; exact ihb s H K h
    · exact h.elim
  | block id keep a ih =>
    intro s H K h
    simp only [wpC] at h ⊢
    obtain ⟨e, s1, H1, h1, h2⟩ := ih s H _ h
    cases e with
    | normal => exact ⟨.normal, killB keep s1, H1, wpC_mono hU a s H _ _ (fun e1 s' H' q => by obtain ⟨rfl, rfl, rfl⟩ := q; exact ⟨rfl, rfl, rfl⟩) h1, h2⟩
    | ret => exact ⟨.ret, s1, H1, wpC_mono hU a s H _ _ (fun e1 s' H' q => by obtain ⟨rfl, rfl, rfl⟩ := q; exact ⟨rfl, rfl, rfl⟩) h1, h2⟩
    | exit j =>
      simp only at h2
      split at h2
      · rename_i hj
        exact ⟨.normal, killB keep s1, H1, wpC_mono hU a s H _ _ (fun e1 s' H' q => by obtain ⟨rfl, rfl, rfl⟩ := q; simp [hj]) h1, h2⟩
      · rename_i hj
        exact ⟨.exit j, s1, H1, wpC_mono hU a s H _ _ (fun e1 s' H' q => by obtain ⟨rfl, rfl, rfl⟩ := q; simp [hj]) h1, h2⟩
  | loop sp a ih =>
    intro s H K h
    simp only [wpC] at h ⊢
    refine h (fun s1 H1 => ∃ e s' H', LoopP (wpC X C a) (nextL sp H.bs.length) (fun e1 s2 H2 => e1 = e ∧ s2 = s' ∧ H2 = H') s1 H1 ∧ K e s' H') fun s1 H1 hB => ?_
    obtain ⟨e, s2, H2, h1, h2⟩ := ih s1 H1 _ hB
    cases e with
    | normal =>
      obtain ⟨e, s', H', h3, h4⟩ := h2
      exact ⟨e, s', H', .round hU (wpC_mono hU a s1 H1 _ _ (fun e1 s' H' q => by obtain ⟨rfl, rfl, rfl⟩ := q; exact h3) h1), h4⟩
    | exit id => exact ⟨_, _, _, .round hU (wpC_mono hU a s1 H1 _ _ (fun e1 s' H' q => by obtain ⟨rfl, rfl, rfl⟩ := q; exact ⟨rfl, rfl, rfl⟩) h1), h2⟩
    | ret => exact ⟨_, _, _, .round hU (wpC_mono hU a s1 H1 _ _ (fun e1 s' H' q => by obtain ⟨rfl, rfl, rfl⟩ := q; exact ⟨rfl, rfl, rfl⟩) h1), h2⟩
  | region id ops draw louds th fz =>
    intro s H K h
    cases draw with
    | true =>
      simp only [wpC] at h ⊢
      obtain ⟨s', H', h1, h2⟩ := wpOpsA_exact hU hXe _ _ _ _ h.2
      exact ⟨.normal, s', H', ⟨h.1, wpOpsA_mono hU (fun s H q => ⟨rfl, q⟩) _ _ _ _ h1⟩, h2⟩
    | false =>
      simp only [wpC] at h ⊢
      obtain ⟨s', H', h1, h2⟩ := wpOpsN_exact hU hXe _ _ _ _ h
      exact ⟨.normal, s', H', wpOpsN_mono hU (fun s H q => ⟨rfl, q⟩) _ _ _ _ h1, h2⟩
  | frz l kp =>
    intro s H K h
    simp only [wpC] at h ⊢
    split at h
    · rename_i s' H' he; exact ⟨_, _, _, ⟨rfl, rfl, rfl⟩, h⟩
    · exact h.elim
  | bad => intro s H K h; exact h.elim

theorem finK.mono {E : TEnv} {res : List ResultVar} {K K' : AV → Heap → Prop} (hK : ∀ v H, K v H → K' v H) : ∀ e s H, finK E res K e s H → finK E res K' e s H
  | .normal, _, _, ⟨rs, h1, h2⟩ => ⟨rs, h1, hK _ _ h2⟩
  | .ret, _, _, ⟨rs, h1, h2⟩ => ⟨rs, h1, hK _ _ h2⟩
  | .exit _, _, _, h => h

theorem finK.exact {E : TEnv} {res : List ResultVar} {K : AV → Heap → Prop} : ∀ e s H, finK E res K e s H → ∃ v H', finK E res (fun v1 H1 => v1 = v ∧ H1 = H') e s H ∧ K v H'
  | .normal, _, _, ⟨rs, h1, h2⟩ => ⟨_, _, ⟨rs, h1, rfl, rfl⟩, h2⟩
  | .ret, _, _, ⟨rs, h1, h2⟩ => ⟨_, _, ⟨rs, h1, rfl, rfl⟩, h2⟩
  | .exit _, _, _, h => h.elim

theorem body_exact {X : CallRel} {C : Ctx} (hU : Up X) (hXe : Exact X) {f : FuncId} {ys : List AV} {H : Heap} {K : AV → Heap → Prop} (h : Body X C f ys H K) : ∃ v H', Body X C f ys H (fun v1 H1 => v1 = v ∧ H1 = H') ∧ K v H' := by
  unfold Body at h ⊢
  split at h
  · exact h.elim
  · rename_i fn hfn
    split at h
    · exact h.elim
    · rename_i c hc
      obtain ⟨e, s', H', h1, h2⟩ := wpC_exact hU hXe _ _ _ _ h
      obtain ⟨v, H2, h3, h4⟩ := finK.exact _ _ _ h2
      refine ⟨v, H2, ?_, h4⟩
      exact wpC_mono hU _ _ _ _ _ (fun e1 s1 H1 q => by obtain ⟨rfl, rfl, rfl⟩ := q; exact h3) h1

theorem Body.mono {X X' : CallRel} {C : Ctx} (hX : ∀ f ys H (K K' : AV → Heap → Prop), (∀ v H, K v H → K' v H) → X f ys H K → X' f ys H K') {f : FuncId} {ys : List AV} {H : Heap} {K K' : AV → Heap → Prop} (hK : ∀ v H, K v H → K' v H) (h : Body X C f ys H K) : Body X' C f ys H K' := by
  unfold Body at h ⊢
  split at h
  · exact h.elim
  · rename_i fn hfn
    split at h
    · exact h.elim
    · rename_i c hc
      exact wpC_mono hX _ _ _ _ _ (finK.mono hK) h

/-- What is said of a call by a rule of one's own. -/
def ExtUp (C : Ctx) : Prop := Up C.ext

theorem ACall.up {C : Ctx} (hE : ExtUp C) : Up (ACall C) := by
  intro f ys H K K' hK h
  refine h (fun f ys H K => ∀ K', (∀ v H, K v H → K' v H) → ACall C f ys H K') ⟨fun f ys H K h K' hK X hX => hX.1 _ _ _ _ (hE _ _ _ _ _ hK h), fun f ys H K h K' hK X hX => ?_⟩ K' hK
  refine hX.2 _ _ _ _ (Body.mono (fun f ys H K K2 hK2 h => ?_) hK h)
  exact h K2 hK2 X hX

/-- A call's body is enough. -/
theorem ACall.intro {C : Ctx} (hE : ExtUp C) {f : FuncId} {ys : List AV} {H : Heap} {K : AV → Heap → Prop} (h : Body (ACall C) C f ys H K) : ACall C f ys H K := by
  intro X hX
  refine hX.2 _ _ _ _ (Body.mono (fun f ys H K K' hK hc => ?_) (fun _ _ h => h) h)
  exact ACall.up hE _ _ _ _ _ hK hc X hX

/-- A call comes to one thing. -/
theorem ACall.exact {C : Ctx} (hE : ExtUp C) (hX : Exact C.ext) : Exact (ACall C) := by
  intro f ys H K h
  refine h (fun f ys H K => ∃ v H', ACall C f ys H (fun v1 H1 => v1 = v ∧ H1 = H') ∧ K v H') ⟨fun f ys H K h => ?_, fun f ys H K h => ?_⟩
  · obtain ⟨v, H', h1, h2⟩ := hX _ _ _ _ h
    exact ⟨v, H', fun X hX => hX.1 _ _ _ _ h1, h2⟩
  · obtain ⟨v, H', h1, h2⟩ := body_exact (X := fun f ys H K => ∃ v H', ACall C f ys H (fun v1 H1 => v1 = v ∧ H1 = H') ∧ K v H') (fun f ys H K K' hK ⟨v, H', h1, h2⟩ => ⟨v, H', h1, hK _ _ h2⟩) (fun f ys H K ⟨v, H', h1, h2⟩ => ⟨v, H', ⟨v, H', h1, rfl, rfl⟩, h2⟩) h
    refine ⟨v, H', ACall.intro hE (Body.mono (fun f ys H K K' hK ⟨v, H', h1, h2⟩ => ?_) (fun _ _ h => h) h1), h2⟩
    exact ACall.up hE _ _ _ _ _ (fun v1 H1 q => by obtain ⟨rfl, rfl⟩ := q; exact hK _ _ h2) h1

theorem ACall.ext {C : Ctx} {f : FuncId} {ys : List AV} {H : Heap} {K : AV → Heap → Prop} (h : C.ext f ys H K) : ACall C f ys H K := fun _ hX => hX.1 _ _ _ _ h

/-- What the semantics says of a call is so. -/
theorem acall_sim {P : Program} {C : Ctx} (hm : P.follows .mixedOrders = true) (hE : ∀ t ti, C.E t = some ti → TyOK P t ti) (hC : ∀ f fn, C.code f = some fn → P.funcs[f]? = some fn ∧ (fn.name == "runtime.NumGoroutine") = false)
    (hext : ∀ f ys H K, C.ext f ys H K → ∃ v H', Sim P f ys H (fun v1 H1 => v1 = v ∧ H1 = H') ∧ K v H')
    {f : FuncId} {ys : List AV} {H : Heap} {K : AV → Heap → Prop} (h : ACall C f ys H K) : Sim P f ys H K := by
  have hY : ∃ v H', Sim P f ys H (fun v1 H1 => v1 = v ∧ H1 = H') ∧ K v H' := by
    let Y : CallRel := fun f ys H K => ∃ v H', Sim P f ys H (fun v1 H1 => v1 = v ∧ H1 = H') ∧ K v H'
    have hYe : Exact Y := fun f ys H K ⟨v, H', h1, h2⟩ => ⟨v, H', ⟨v, H', h1, rfl, rfl⟩, h2⟩
    have hYu : Up Y := fun f ys H K K' hK ⟨v, H', h1, h2⟩ => ⟨v, H', h1, hK _ _ h2⟩
    have hYs : ∀ f ys H K, Y f ys H K → Sim P f ys H K := fun f ys H K ⟨v, H', h1, h2⟩ => h1.mono fun v1 H1 q => by obtain ⟨rfl, rfl⟩ := q; exact h2
    refine h Y ⟨hext, fun f ys H K hb => ?_⟩
    obtain ⟨v, H', h1, h2⟩ := body_exact hYu hYe hb
    exact ⟨v, H', bodySim hE hC hYs (drawSim hYe hm hE hYs) h1, h2⟩
  obtain ⟨v, H', h1, h2⟩ := hY
  exact h1.mono fun v1 H1 q => by obtain ⟨rfl, rfl⟩ := q; exact h2
end Go.VS
