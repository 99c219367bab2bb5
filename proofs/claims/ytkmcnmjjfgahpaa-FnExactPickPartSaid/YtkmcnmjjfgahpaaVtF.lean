/-
  VS, part 32: a function's body.
-/
import Derived.Test.YtkmcnmjjfgahpaaVtE
import Derived.Laws.Sem
namespace Go.VS

section body
variable {P : Program} {C : Ctx} {X : CallRel}

theorem resVals_ok (hE : ∀ t ti, C.E t = some ti → TyOK P t ti) {w : World} {H : Heap} {φ : Phi} {A : Avoid} {s : Frm} {a : Act} (hst : St w H φ A) (hs : SF w H φ A s a) {f : ResultVar → Sem Value} (hf1 : ∀ t, f (.tmp t) = pure (a.tmps.getD t undef)) (hf2 : ∀ x t, f (.cell x t) = (do loadVar t (← asAddr (a.tmps.getD x undef)))) :
    ∀ (l : List ResultVar) (rs : List AV), resVals C.E s H l = some rs →
    ∃ rus : List Value, (l.mapM f).run P w = .ok rus w ∧ rs.length = rus.length ∧ ∀ (i : Nat) (x : AV) (u : Value), rs[i]? = some x → rus[i]? = some u → R w H φ A x u
  | [], rs, h => by
    simp only [resVals, Option.some.injEq] at h; subst h
    exact ⟨[], by simp, rfl, by simp⟩
  | .tmp t :: l, rs, h => by
    simp only [resVals, Option.map_eq_some_iff] at h
    obtain ⟨rs', h1, rfl⟩ := h
    obtain ⟨rus, k1, k2, k3⟩ := resVals_ok hE hst hs hf1 hf2 l rs' h1
    refine ⟨a.tmps.getD t undef :: rus, by simp [List.mapM_cons, k1, hf1], by simp [k2], fun i x u hx hu => ?_⟩
    cases i with
    | zero => simp at hx hu; subst hx; subst hu; have := hs.ev (.tmp t); simpa [ev, Act.eval] using this
    | succ i => exact k3 i x u hx hu
  | .cell b t :: l, rs, h => by
    simp only [resVals] at h
    split at h
    · rename_i v H' he
      simp only [Option.map_eq_some_iff] at h
      obtain ⟨rs', h1, rfl⟩ := h
      obtain ⟨rus, k1, k2, k3⟩ := resVals_ok hE hst hs hf1 hf2 l rs' h1
      have hb := hs.ev (.tmp b)
      simp only [evalOp] at he
      obtain ⟨u, hu, hr⟩ := q_load (P := P) hE hst (Ext.refl H) hb he
      have hu' : (do loadVar t (← asAddr (a.tmps.getD b undef)) : Sem Value).run P w = .ok u w := by
        revert hu
        simp only [Act.eval]
        unfold Instr.loadAt
        generalize a.tmps.getD b undef = q
        intro hu
        cases q with
        | pointer o => cases o with
          | none => simp [Instr.sureAddr] at hu
          | some o => simpa [Instr.sureAddr, asAddr] using hu
        | _ => simp [Instr.sureAddr] at hu
      refine ⟨u :: rus, by rw [List.mapM_cons, hf2, Sem.run_bind, hu']; simp [k1], by simp [k2], fun i x u' hx hu' => ?_⟩
      cases i with
      | zero => simp at hx hu'; subst hx; subst hu'; exact hr
      | succ i => exact k3 i x u' hx hu'
    · simp at h

theorem results_ok (hE : ∀ t ti, C.E t = some ti → TyOK P t ti) {w : World} {H : Heap} {φ : Phi} {A : Avoid} {s : Frm} {a : Act} (hst : St w H φ A) (hs : SF w H φ A s a) {fn : Func} {rs : List AV} (h : resVals C.E s H fn.results.toList = some rs) :
    ∃ rus : List Value, (results fn a.tmps).run P w = .ok (oneVal rus) w ∧ rs.length = rus.length ∧ ∀ (i : Nat) (x : AV) (u : Value), rs[i]? = some x → rus[i]? = some u → R w H φ A x u := by
  obtain ⟨f, hf1, hf2, hf3⟩ : ∃ f : ResultVar → Sem Value, (∀ t, f (.tmp t) = pure (a.tmps.getD t undef)) ∧ (∀ x t, f (.cell x t) = (do loadVar t (← asAddr (a.tmps.getD x undef)))) ∧
      results fn a.tmps = (do let vs ← fn.results.mapM f; pure (if h : vs.size = 1 then vs[0] else .tuple vs)) := ⟨_, fun _ => rfl, fun _ _ => rfl, rfl⟩
  obtain ⟨rus, h1, h2, h3⟩ := resVals_ok hE hst hs hf1 hf2 fn.results.toList rs h
  refine ⟨rus, ?_, h2, h3⟩
  rw [hf3, Sem.run_bind, Array.mapM_eq_mapM_toList, Sem.run_map, h1]
  match rus with
  | [] => simp [oneVal]
  | [u] => simp [oneVal]
  | u :: u' :: us => simp [oneVal]

theorem bodySim (hE : ∀ t ti, C.E t = some ti → TyOK P t ti) (hC : ∀ f fn, C.code f = some fn → P.funcs[f]? = some fn ∧ (fn.name == "runtime.NumGoroutine") = false) (hX : ∀ f ys H K, X f ys H K → Sim P f ys H K) (hD : DrawSim P C X)
    {f : FuncId} {ys : List AV} {H : Heap} {K : AV → Heap → Prop} (h : Body X C f ys H K) : Sim P f ys H K := by
  unfold Body at h
  split at h
  · exact h.elim
  rename_i fn hfn
  split at h
  · exact h.elim
  rename_i c hc
  obtain ⟨hf, hname⟩ := hC f fn hfn
  refine ⟨⟨fn, hf, hname, by simp [hc]⟩, fun w A φ us hst hl hr => ?_⟩
  refine calls_of_wp hf hc (codeSim hE hX hD (C.pol f) c 0 _ H _ _ w φ A _ h hst ⟨by simp [hl], fun t x v hx hv => ?_, rfl⟩ ?_)
  · rcases Nat.lt_or_ge t us.size with ht | ht
    · rw [List.getElem?_append_left (by rw [hl]; exact ht)] at hx
      rw [Array.getElem?_append_left ht] at hv
      exact hr t x v hx hv
    · rw [List.getElem?_append_right (by rw [hl]; exact ht)] at hx
      have : x = .undef := by
        rw [List.getElem?_replicate] at hx
        split at hx <;> simp at hx
        exact hx.symm
      subst this
      exact .fr _ _ (.undef _)
  · intro e s' H' φ' A' a' w' h1 h2 h3
    have fin : (∃ rs, resVals C.E s' H' fn.results.toList = some rs ∧ K (oneOrTup rs) H') → a'.defers = [] ∧ ∃ v, (results fn a'.tmps).run P w' = .ok v w' ∧ CRes w H φ A K (.returned v) w' := by
      rintro ⟨rs, hrs, hk⟩
      refine ⟨h2.dfr, ?_⟩
      obtain ⟨rus, k1, k2, k3⟩ := results_ok (P := P) hE h1.st h2 hrs
      exact ⟨_, k1, _, H', φ', A', h1, R_one k2 k3, hk⟩
    cases e with
    | normal => exact fin h3
    | ret => exact fin h3
    | exit id => exact h3.elim
end body
end Go.VS
