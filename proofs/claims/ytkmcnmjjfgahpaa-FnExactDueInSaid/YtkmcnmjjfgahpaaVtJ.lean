/-
  VS, part 36: a region whose order is open: its trace in the text's order, and what its edges say.
-/
import Derived.Test.YtkmcnmjjfgahpaaVtI
namespace Go.VS

section tr
variable {C : Ctx} {X : CallRel}

theorem wpOp_exact (hXe : Exact X) {q th : Bool} {o : Oper} {s : Frm} {H : Heap} {K : AV → Heap → Prop} (h : wpOp X C q th o s H K) : ∃ v H', wpOp X C q th o s H (fun v1 H1 => v1 = v ∧ H1 = H') ∧ K v H' := by
  unfold wpOp at h ⊢
  split at h
  · rename_i b args tys hop
    obtain ⟨hq, h⟩ := h
    split at h
    · rename_i v H' he
      refine ⟨v, H', ?_, h⟩
      first
        | exact ⟨hq, rfl, rfl⟩
        | (simp only [hop]; exact ⟨hq, trivial, trivial⟩)
        | (simp only [hop, he]; exact ⟨hq, trivial, trivial⟩)
    · exact h.elim
  · rename_i x args tys hop
    split at h
    · rename_i g caps hg
      have hQ : wpCallQ X C g (args.toList.map (ev s) ++ caps) th H K → ∃ v H', wpCallQ X C g (args.toList.map (ev s) ++ caps) th H (fun v1 H1 => v1 = v ∧ H1 = H') ∧ K v H' := by
        intro h
        unfold wpCallQ at h ⊢
        split at h
        · exact h.elim
        rename_i ys lent hy
        obtain ⟨y, h1, h2, h3⟩ := h
        split at h3
        · rename_i ht
          refine ⟨_, _, ⟨y, h1, h2, ?_⟩, h3⟩
          simp only [ht, if_true]
          exact ⟨trivial, trivial⟩
        · rename_i ht
          refine ⟨_, _, ⟨y, h1, h2, ?_⟩, h3⟩
          simp only [ht]
          exact ⟨trivial, trivial⟩
      have key : ∃ v H', (if q then wpCallQ X C g (args.toList.map (ev s) ++ caps) th H (fun v1 H1 => v1 = v ∧ H1 = H') else X g (args.toList.map (ev s) ++ caps) H (fun v1 H1 => v1 = v ∧ H1 = H') ∨ wpCallQ X C g (args.toList.map (ev s) ++ caps) th H (fun v1 H1 => v1 = v ∧ H1 = H')) ∧ K v H' := by
        cases q with
        | false =>
          simp only [Bool.false_eq_true, if_false] at h ⊢
          rcases h with h | h
          · obtain ⟨v, H', h1, h2⟩ := hXe _ _ _ _ h; exact ⟨v, H', .inl h1, h2⟩
          · obtain ⟨v, H', h1, h2⟩ := hQ h; exact ⟨v, H', .inr h1, h2⟩
        | true =>
          simp only [if_true] at h ⊢
          exact hQ h
      obtain ⟨v, H', k1, k2⟩ := key
      refine ⟨v, H', ?_, k2⟩
      first
        | exact k1
        | (simp only [hop, hg]; exact k1)
    · exact h.elim
  · rename_i op hn1 hn2
    obtain ⟨hq, h⟩ := h
    split at h
    · rename_i v H' he
      refine ⟨v, H', ?_, h⟩
      exact ⟨hq, rfl, rfl⟩
    · exact h.elim

theorem lateAll_iff (C : Ctx) (ops : Array Oper) (s : Frm) (H : Heap) (K : Prop) : ∀ (l : List Nat), lateAll C ops s H K l → (∀ j ∈ l, lateChk C ops s H j) ∧ K
  | [], h => ⟨by simp, h⟩
  | j :: js, h => by
    obtain ⟨h1, h2⟩ := h
    obtain ⟨k1, k2⟩ := lateAll_iff C ops s H K js h2
    refine ⟨fun i hi => ?_, k2⟩
    rcases List.mem_cons.1 hi with rfl | hi
    · exact h1
    · exact k1 i hi

/-- A region's run in the text's order. -/
structure Tr (X : CallRel) (C : Ctx) (ops : Array Oper) (q : Nat → Bool) (late : Nat → List Nat) (th : List Nat) (K : Frm → Heap → Prop) (l : List Oper) (k : Nat) (s : Nat → Frm) (H : Nat → Heap) (v : Nat → AV) (act : Nat → Bool) : Prop where
  step : ∀ i o, l[i]? = some o → s (i + 1) = setA (s i) o.dst (v i) ∧ guardA ops o (s i) = some (act i) ∧ (act i = true → wpOp X C (q (k + i)) (th.contains (k + i)) o (s i) (H i) (fun v1 H1 => v1 = v i ∧ H1 = H (i + 1))) ∧
    (act i = false → v i = .tup [] ∧ H (i + 1) = H i) ∧ ∀ j ∈ late (k + i), lateChk C ops (s (i + 1)) (H (i + 1)) j
  fin : K (s l.length) (H l.length)

theorem tr_of (hXe : Exact X) {ops : Array Oper} {q : Nat → Bool} {late : Nat → List Nat} {th : List Nat} {K : Frm → Heap → Prop} : ∀ (l : List Oper) (k : Nat) (s0 : Frm) (H0 : Heap), wpOpsA X C ops q late th K l k s0 H0 →
    ∃ s H v act, s 0 = s0 ∧ H 0 = H0 ∧ Tr X C ops q late th K l k s H v act
  | [], k, s0, H0, h => ⟨fun _ => s0, fun _ => H0, fun _ => .undef, fun _ => true, rfl, rfl, ⟨by simp, h⟩⟩
  | o :: l, k, s0, H0, h => by
    have key : ∃ v0 H1 a0, guardA ops o s0 = some a0 ∧ (a0 = true → wpOp X C (q k) (th.contains k) o s0 H0 (fun v1 H' => v1 = v0 ∧ H' = H1)) ∧ (a0 = false → v0 = .tup [] ∧ H1 = H0) ∧ (∀ j ∈ late k, lateChk C ops (setA s0 o.dst v0) H1 j) ∧
        wpOpsA X C ops q late th K l (k + 1) (setA s0 o.dst v0) H1 := by
      simp only [wpOpsA] at h
      cases hg : o.guard with
      | none =>
        rw [hg] at h
        obtain ⟨v, H', h1, h2⟩ := wpOp_exact hXe h
        obtain ⟨k1, k2⟩ := lateAll_iff _ _ _ _ _ _ h2
        exact ⟨v, H', true, by simp [guardA, hg], fun _ => h1, fun h => by simp at h, k1, k2⟩
      | some p =>
        rw [hg] at h
        obtain ⟨v, H', h1, h2⟩ := h
        obtain ⟨k1, k2⟩ := lateAll_iff _ _ _ _ _ _ h2
        split at h1
        · rename_i b hb
          cases b with
          | true => exact ⟨v, H', true, hb, fun _ => by simpa using h1, fun h => by simp at h, k1, k2⟩
          | false => exact ⟨v, H', false, hb, fun h => by simp at h, fun _ => by simpa using h1, k1, k2⟩
        · exact h1.elim
    obtain ⟨v0, H1, a0, g1, g2, g3, g4, g5⟩ := key
    obtain ⟨s, H, v, act, e1, e2, t⟩ := tr_of hXe l (k + 1) _ _ g5
    refine ⟨fun i => match i with | 0 => s0 | i + 1 => s i, fun i => match i with | 0 => H0 | i + 1 => H i, fun i => match i with | 0 => v0 | i + 1 => v i, fun i => match i with | 0 => a0 | i + 1 => act i, rfl, rfl, ⟨fun i o' hi => ?_, t.fin⟩⟩
    cases i with
    | zero =>
      simp only [List.getElem?_cons_zero, Option.some.injEq] at hi; subst hi
      simp only [Nat.add_zero, e1, e2]
      exact ⟨trivial, g1, g2, g3, g4⟩
    | succ i =>
      have := t.step i o' (by simpa using hi)
      rw [show k + 1 + i = k + (i + 1) by omega] at this
      exact this
end tr

theorem foldl_bit (bs : Edge → Bool) (acc : List Nat) (j : Nat) : ∀ (l : List Edge) (m0 : Nat), (l.foldl (fun m e => if bs e then m ||| 2 ^ e.on ||| acc.getD e.on 0 else m) m0).testBit j = true → m0.testBit j = true ∨ ∃ e ∈ l, bs e = true ∧ (e.on = j ∨ (acc.getD e.on 0).testBit j = true)
  | [], m0, h => .inl h
  | e :: l, m0, h => by
    simp only [List.foldl_cons] at h
    rcases foldl_bit bs acc j l _ h with h | ⟨e', h1, h2⟩
    · split at h
      · rename_i hb
        simp only [Nat.testBit_or, Nat.testBit_two_pow, Bool.or_eq_true, decide_eq_true_eq] at h
        rcases h with (h | h) | h
        · exact .inl h
        · exact .inr ⟨e, by simp, hb, .inl h⟩
        · exact .inr ⟨e, by simp, hb, .inr h⟩
      · exact .inl h
    · exact .inr ⟨e', by simp [h1], h2⟩

theorem befGo_spec : ∀ (os : List Oper) (acc : List Nat), (befGo os acc).length = acc.length + os.length ∧ (∀ i, i < acc.length → (befGo os acc).getD i 0 = acc.getD i 0) ∧
    ∀ i o, os[i]? = some o → ∀ j, ((befGo os acc).getD (acc.length + i) 0).testBit j = true → ∃ e ∈ o.after.toList, Region.binds .any e = true ∧ (e.on = j ∨ (e.on < acc.length + i ∧ ((befGo os acc).getD e.on 0).testBit j = true))
  | [], acc => ⟨by simp [befGo], by simp [befGo], by simp⟩
  | o :: os, acc => by
    obtain ⟨h1, h2, h3⟩ := befGo_spec os (acc ++ [o.after.toList.foldl (fun m e => if Region.binds .any e then m ||| 2 ^ e.on ||| acc.getD e.on 0 else m) 0])
    simp only [befGo]
    have hold : ∀ i, i < acc.length → (befGo os (acc ++ [o.after.toList.foldl (fun m e => if Region.binds .any e then m ||| 2 ^ e.on ||| acc.getD e.on 0 else m) 0])).getD i 0 = acc.getD i 0 := by
      intro i hi
      rw [h2 i (by simp; omega)]
      simp [List.getD, List.getElem?_append_left hi]
    refine ⟨by rw [h1]; simp; omega, hold, fun i o' ho j hj => ?_⟩
    cases i with
    | zero =>
      simp only [List.getElem?_cons_zero, Option.some.injEq] at ho; subst ho
      rw [Nat.add_zero, h2 _ (by simp)] at hj
      simp only [List.getD, List.getElem?_append_right (Nat.le_refl _), Nat.sub_self, List.getElem?_cons_zero, Option.getD_some] at hj
      rcases foldl_bit (Region.binds .any) acc j _ _ hj with h | ⟨e, q1, q2, q3⟩
      · simp at h
      · refine ⟨e, q1, q2, ?_⟩
        rcases q3 with q3 | q3
        · exact .inl q3
        · have hlt : e.on < acc.length := by
            rcases Nat.lt_or_ge e.on acc.length with h | h
            · exact h
            · rw [List.getD, List.getElem?_eq_none h] at q3; simp at q3
          exact .inr ⟨by omega, by rw [hold _ hlt]; exact q3⟩
    | succ i =>
      simp only [List.length_append, List.length_singleton] at h3
      have := h3 i o' (by simpa using ho) j (by rw [show acc.length + 1 + i = acc.length + (i + 1) by omega]; exact hj)
      obtain ⟨e, q1, q2, q3⟩ := this
      refine ⟨e, q1, q2, ?_⟩
      rcases q3 with q3 | ⟨q3, q4⟩
      · exact .inl q3
      · exact .inr ⟨by omega, q4⟩

/-- What has come, closed under the edges. -/
def Shut (ops : Array Oper) (L : Nat → Prop) : Prop := ∀ i o, ops[i]? = some o → L i → ∀ e ∈ o.after, Region.binds .any e = true → L e.on

theorem bef_listed {ops : Array Oper} {L : Nat → Prop} (hs : Shut ops L) (hlt : ∀ i o, ops[i]? = some o → ∀ e ∈ o.after, Region.binds .any e = true → e.on < i) :
    ∀ (i : Nat) (o : Oper), ops[i]? = some o → (∀ e ∈ o.after, Region.binds .any e = true → L e.on) → ∀ j, ((bef ops.toList).getD i 0).testBit j = true → L j := by
  intro i
  induction i using Nat.strongRecOn with
  | _ i ih =>
    intro o ho ha j hj
    have := (befGo_spec ops.toList []).2.2 i o (by simpa using ho) j (by simpa [bef] using hj)
    obtain ⟨e, q1, q2, q3⟩ := this
    have hLe := ha e (by simpa using q1) q2
    rcases q3 with rfl | ⟨_, q4⟩
    · exact hLe
    · have hon := hlt i o ho e (by simpa using q1) q2
      have hi : i < ops.size := (Array.getElem?_eq_some_iff.1 ho).1
      have ho' := Array.getElem?_eq_getElem (xs := ops) (show e.on < ops.size by omega)
      exact ih e.on hon _ ho' (hs e.on _ ho' hLe) j q4
end Go.VS
