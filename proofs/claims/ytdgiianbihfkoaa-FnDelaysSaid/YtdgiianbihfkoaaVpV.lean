/-
  FnDelays: what conforms waits no longer than the depth allows; the law.
-/
import Derived.Test.YtdgiianbihfkoaaVpU
import Derived.Test.YtdgiianbihfkoaaVpT
open Go Go.VS
namespace Go.VxW

theorem outB_pass (m : Int) (hm : 1 ≤ m) : ∀ (l : List Int) (w i f : Int), (∀ x ∈ l, 0 ≤ x ∧ x ≤ 60) → 0 ≤ w → w = i - f → outB l (passF m l w).1 i f = true
  | [], _, _, _, _, _, _ => by simp [outB]
  | x :: xs, w, i, f, hl, hw, he => by
    have hx := hl x (by simp)
    have := least_le (w + x) m
    simp only [passF, outB]
    rw [dec_t (by omega), dec_t (by omega), outB_pass m hm xs _ _ _ (fun y hy => hl y (by simp [hy])) (by omega) (by omega)]
    rfl
theorem passF_len (m : Int) (l : List Int) (w : Int) : (passF m l w).1.length = l.length ∧ (passF m l w).2.length = l.length := by
  induction l generalizing w with
  | nil => exact ⟨rfl, rfl⟩
  | cons x xs ih => simp [passF, (ih _).1, (ih _).2]
theorem lag_pass (m : Int) (hm : 1 ≤ m) : ∀ (l : List Int) (w off n : Int) (L : Nat), (∀ x ∈ l, 0 ≤ x ∧ x ≤ 60) → 0 ≤ w → n ≤ off + w + l.headD 0 → n - off ≤ (L + 1) * m → lagN n (comeF (passF m l w).1 off) ≤ L
  | [], w, off, n, L, _, _, _, _ => by simp [passF, comeF, lagN]
  | x :: xs, w, off, n, L, hl, hw, hn, hL => by
    have hx := hl x (by simp)
    have := least_le (w + x) m
    simp only [List.headD_cons] at hn
    simp only [passF, comeF, lagN_cons]
    by_cases h : off + leastF (w + x) m < n
    · rw [if_pos h]
      have hg : leastF (w + x) m = m := by omega
      cases L with
      | zero => exfalso; simp at hL; omega
      | succ L =>
        have hh : 0 ≤ xs.headD 0 := by
          cases xs with
          | nil => simp
          | cons y ys => have := hl y (by simp); simpa using this.1
        have := lag_pass m hm xs (w + x - leastF (w + x) m) (off + leastF (w + x) m) n L (fun y hy => hl y (by simp [hy])) (by omega) (by omega) (by
          rw [hg]
          have e : (((L + 1 : Nat) : Int) + 1) * m = ((L : Int) + 1) * m + m := by rw [show (((L + 1 : Nat) : Int) + 1) = ((L : Int) + 1) + 1 by omega, Int.add_mul _ 1 m, Int.one_mul]
          omega)
        omega
    · rw [if_neg h]; omega
/-- What conforms waits within the depth, and no longer than so many ticks. -/
theorem con_pass {r d m : Int} {D : Nat} (hr : 1 ≤ r) (hm : r ≤ m) (hD : d ≤ (D + 1) * m) : ∀ (l : List Int) (w off i k s W : Int), (∀ x ∈ l, 0 ≤ x ∧ x ≤ 60) → okT r d l = true → okF r d l k s = true → 0 ≤ w → 0 ≤ s - r * k → w ≤ s - r * k → i = off + w → W ≤ D →
    (∀ y ∈ (passF m l w).2, y ≤ d) ∧ lagsF (comeF l i) (comeF (passF m l w).1 off) W ≤ D
  | [], w, off, i, k, s, W, _, _, _, _, _, _, _, hW => by simp [passF, comeF, lagsF, hW]
  | x :: xs, w, off, i, k, s, W, hl, hT, hF, hw, h0, hs, hi, hW => by
    have hx := hl x (by simp)
    have := least_le (w + x) m
    simp only [okT, Bool.and_eq_true] at hT
    simp only [okF] at hF
    split at hF
    · simp at hF
    · rename_i hd
      have hv : w + x ≤ d := by omega
      have e : r * (k + 1) = r * k + r := by rw [Int.mul_add, Int.mul_one]
      have hlag := lag_pass m (by omega) (x :: xs) w off (i + x) D hl hw (by simp only [List.headD_cons]; omega) (by omega)
      simp only [passF, comeF] at hlag
      simp only [passF, comeF, lagsF]
      have hW' : (if (lagN (i + x) ((off + leastF (w + x) m) :: comeF (passF m xs (w + x - leastF (w + x) m)).1 (off + leastF (w + x) m)) : Int) > W then (lagN (i + x) ((off + leastF (w + x) m) :: comeF (passF m xs (w + x - leastF (w + x) m)).1 (off + leastF (w + x) m)) : Int) else W) ≤ D := by
        split <;> omega
      have hrec := fun (W' : Int) (hW' : W' ≤ D) => show (∀ y ∈ (passF m xs (w + x - leastF (w + x) m)).2, y ≤ d) ∧ lagsF (comeF xs (i + x)) (comeF (passF m xs (w + x - leastF (w + x) m)).1 (off + leastF (w + x) m)) W' ≤ D by
        rcases this.2.2 with hg | hg
        · have hF' : okF r d xs 0 0 = true := by
            cases xs with
            | nil => rfl
            | cons y ys => have := hT.2; simp only [okT, Bool.and_eq_true] at this; exact this.1
          exact con_pass hr hm hD xs _ _ _ 0 0 _ (fun y hy => hl y (by simp [hy])) hT.2 hF' (by omega) (by omega) (by omega) (by omega) hW'
        · exact con_pass hr hm hD xs _ _ _ (k + 1) (s + x) _ (fun y hy => hl y (by simp [hy])) hT.2 hF (by omega) (by omega) (by omega) (by omega) hW'
      have hrec := hrec _ hW'
      refine ⟨?_, hrec.2⟩
      intro y hy
      simp only [List.mem_cons] at hy
      rcases hy with rfl | hy
      · omega
      · exact hrec.1 y hy

/-! what is drawn -/
theorem flow_t {c : L1Cur} {b : Int} (h : Cur c b) (hb : b ≤ 2000000000000000000) : Tot (spec_l1Cur_flow c) fun r => r.1.length ≤ 41 ∧ Cur r.2 (b + 200) := by
  unfold spec_l1Cur_flow
  refine Tot.then (pick_t (by assumption) (by omega)) ?_
  rintro ⟨x, c_x⟩ ⟨x_0, x_1, x_c⟩
  dsimp only at x_0 x_1 x_c ⊢
  have x_2 := x_1 (by omega)
  refine Tot.then (one_t (by assumption) (by omega)) ?_
  rintro ⟨y, c_y⟩ y_c
  dsimp only at y_c ⊢
  refine Tot.then (P := fun r => (0 ≤ r.1 ∧ r.1 ≤ 41) ∧ Cur ⟨r.2.1, r.2.2.1, r.2.2.2⟩ (b + 10)) ?_ ?_
  · refine Tot.cnd (fun hc => ?_) (fun hc => ?_)
    · refine Tot.then (pick_t (by assumption) (by omega)) ?_
      rintro ⟨z, c_z⟩ ⟨z_0, z_1, z_c⟩
      dsimp only at z_0 z_1 z_c ⊢
      have z_2 := z_1 (by omega)
      rw [w64 (by omega)]
      exact .ret ⟨(by first | omega | (dsimp only; omega)), z_c.mono (by omega)⟩
    · exact .ret ⟨(by first | omega | (dsimp only; omega)), y_c.mono (by omega)⟩
  · rintro ⟨n, co, a, se⟩ ⟨hn, hc0⟩
    dsimp only at hn hc0 ⊢
    refine Tot.then (P := fun r => r.1.length ≤ 41 ∧ Cur ⟨r.2.1, r.2.2.1, r.2.2.2⟩ (b + 100)) (Tot.whl (fun s => s.2.1.toNat) (fun s => ((0 ≤ s.2.1 ∧ s.2.1 ≤ 41) ∧ s.1.length + s.2.1.toNat ≤ 41) ∧ Cur ⟨s.2.2.1, s.2.2.2.1, s.2.2.2.2⟩ (b + 10 + 2 * (41 - s.2.1))) ?_ ⟨⟨(by first | omega | (dsimp only; omega)), by simp only [List.length_nil]; omega⟩, hc0.mono (by first | omega | (dsimp only; omega))⟩) ?_
    · rintro ⟨l, n, co, a, se⟩ ⟨⟨h1, h2⟩, hc0⟩
      dsimp only at h1 h2 hc0 ⊢
      unfold spec_l1Cur_flow_l0
      dsimp only
      refine Tot.cnd (fun hc => ?_) (fun hc => ?_)
      · simp only [decide_eq_true_eq] at hc
        refine Tot.then (among_t (by assumption) (by omega) (by simp)) ?_
        rintro ⟨y, c_y⟩ ⟨y_m, y_c⟩
        dsimp only at y_m y_c ⊢
        rw [app_in (by simp <;> omega) (by omega), Option.bind_some, w64 (by omega)]
        exact .ret ⟨⟨⟨(by first | omega | (dsimp only; omega)), by simp only [List.length_append, List.length_singleton]; omega⟩, y_c.mono (by first | omega | (dsimp only; omega))⟩, (by first | omega | (dsimp only; omega))⟩
      · simp only [decide_eq_false_iff_not, Int.not_lt] at hc
        exact .ret ⟨(by first | omega | (dsimp only; omega)), hc0.mono (by first | omega | (dsimp only; omega))⟩
    · rintro ⟨l, co, a, se⟩ ⟨h1, hc0⟩
      dsimp only at h1 hc0 ⊢
      refine Tot.then (P := fun r => (r.1 = true → 1 ≤ l.length) ∧ Cur ⟨r.2.1, r.2.2.1, r.2.2.2⟩ (b + 110)) ?_ ?_
      · refine Tot.cnd (fun hc => ?_) (fun hc => ?_)
        · simp only [decide_eq_true_eq] at hc
          refine Tot.then (one_t (by assumption) (by omega)) ?_
          rintro ⟨y, c_y⟩ y_c
          dsimp only at y_c ⊢
          exact .ret ⟨fun _ => (by first | omega | (dsimp only; omega)), y_c.mono (by first | omega | (dsimp only; omega))⟩
        · exact .ret ⟨fun h => by simp at h, hc0.mono (by first | omega | (dsimp only; omega))⟩
      · rintro ⟨t, co, a, se⟩ ⟨h3, hc3⟩
        dsimp only at h3 hc3 ⊢
        refine Tot.then (P := fun r => r.1.length ≤ 41 ∧ Cur ⟨r.2.1, r.2.2.1, r.2.2.2⟩ (b + 200)) ?_ ?_
        · refine Tot.cnd (fun hc => ?_) (fun hc => ?_)
          · have := h3 hc
            refine Tot.then (among_t (by assumption) (by omega) (by simp)) ?_
            rintro ⟨y, c_y⟩ ⟨y_m, y_c⟩
            dsimp only at y_m y_c ⊢
            rw [idx_in (by omega) (by omega)]
            simp only [Option.bind_some]
            exact .ret ⟨by simp only [List.length_set]; omega, y_c.mono (by omega)⟩
          · exact .ret ⟨h1, hc3.mono (by omega)⟩
        · rintro ⟨l', co', a', se'⟩ ⟨h4, hc4⟩
          exact .ret ⟨h4, hc4⟩
theorem rate_t {c : L1Cur} {b : Int} (h : Cur c b) (hb : b ≤ 2000000000000000000) : Tot (spec_l1Cur_rate c) fun r => ((0 ≤ r.1 ∧ r.1 ≤ 21) ∧ 0 ≤ r.2.1 ∧ r.2.1 ≤ 61) ∧ Cur r.2.2 (b + 10) := by
  unfold spec_l1Cur_rate
  refine Tot.then (one_t (by assumption) (by omega)) ?_
  rintro ⟨x, c_x⟩ x_c
  dsimp only at x_c ⊢
  refine Tot.cnd (fun hc => ?_) (fun hc => ?_)
  · refine Tot.then (among_t (by assumption) (by omega) (by simp)) ?_
    rintro ⟨y, c_y⟩ ⟨y_m, y_c⟩
    dsimp only at y_m y_c ⊢
    refine Tot.then (among_t (by assumption) (by omega) (by simp)) ?_
    rintro ⟨z, c_z⟩ ⟨z_m, z_c⟩
    dsimp only at z_m z_c ⊢
    simp at y_m z_m
    exact .ret ⟨⟨(by first | omega | (dsimp only; omega)), (by first | omega | (dsimp only; omega))⟩, z_c.mono (by omega)⟩
  · refine Tot.then (pick_t (by assumption) (by omega)) ?_
    rintro ⟨y, c_y⟩ ⟨y_0, y_1, y_c⟩
    dsimp only at y_0 y_1 y_c ⊢
    refine Tot.then (pick_t (by assumption) (by omega)) ?_
    rintro ⟨z, c_z⟩ ⟨z_0, z_1, z_c⟩
    dsimp only at z_0 z_1 z_c ⊢
    have := y_1 (by omega)
    have := z_1 (by omega)
    rw [w64 (by omega), w64 (by omega)]
    exact .ret ⟨⟨(by first | omega | (dsimp only; omega)), (by first | omega | (dsimp only; omega))⟩, z_c.mono (by omega)⟩
theorem shape_t {r d : Int} {l : List Int} (hl : l.length ≤ 41) : Tot (spec_ShapeFlow r d l) fun r => r.1.length ≤ 41 := by
  unfold spec_ShapeFlow spec_NewBucket
  rw [sRate, sFlow (by omega)]
  cases hr : rateB r d
  · exact .ret (by simp)
  cases hf : flowB l
  · exact .ret (by simp)
  obtain ⟨f1, f2⟩ := flow_iff hf
  unfold rateB at hr
  simp only [Bool.and_eq_true, inB_iff] at hr
  simp only [Option.bind_some, Bool.not_true, cond_false]
  refine Tot.then (P := fun r => r.1.length ≤ 41) (Tot.whl (fun s => l.length - s.2.2.2.1.toNat) (fun s => (0 ≤ s.2.2.2.1 ∧ s.2.2.2.1 ≤ l.length) ∧ s.1.length = s.2.2.2.1.toNat ∧ s.2.1.length = s.2.2.2.1.toNat ∧ (0 ≤ s.2.2.1 ∧ s.2.2.1 ≤ 60 * s.2.2.2.1) ∧ (s.2.2.2.2.1 = r ∧ s.2.2.2.2.2.1 = d ∧ 0 ≤ s.2.2.2.2.2.2 ∧ s.2.2.2.2.2.2 ≤ d)) ?_ ⟨⟨(by first | omega | (dsimp only; omega)), (by first | omega | (dsimp only; omega))⟩, by simp, by simp, ⟨(by first | omega | (dsimp only; omega)), (by first | omega | (dsimp only; omega))⟩, rfl, rfl, (by first | omega | (dsimp only; omega)), (by first | omega | (dsimp only; omega))⟩) ?_
  · rintro ⟨go, wa, w, k, br, bd, bh⟩ ⟨h1, h2, h3, h4, q1, q2, h5⟩
    dsimp only at h1 h2 h3 h4 h5 q1 q2 ⊢
    subst q1 q2
    unfold spec_ShapeFlow_l0
    dsimp only
    refine Tot.cnd (fun hc => ?_) (fun hc => ?_)
    · simp only [decide_eq_true_eq] at hc
      have hx := f2 _ (List.getElem_mem (show k.toNat < l.length by omega))
      rw [idx_in h1.1 hc]
      simp only [Option.bind_some]
      refine Tot.then (P := fun s => s.1 = br ∧ s.2.1 = bd ∧ 0 ≤ s.2.2 ∧ s.2.2 ≤ bd) ?_ ?_
      · refine Tot.cnd (fun hc => ?_) (fun hc => ?_)
        · unfold spec_l7Tick
          rw [sLeast, w64 (by dsimp only; omega)]
          refine .ret ⟨rfl, rfl, ?_⟩
          have := least_le bd (bh + br)
          dsimp only
          omega
        · exact .ret ⟨rfl, rfl, (by first | omega | (dsimp only; omega)), (by first | omega | (dsimp only; omega))⟩
      · rintro ⟨br', bd', bh'⟩ ⟨q1, q2, h6⟩
        dsimp only at h6 q1 q2 ⊢
        subst q1 q2
        rw [sLeast, w64 (x := w + l[k.toNat]) (by omega)]
        have := least_le (w + l[k.toNat]) bh'
        simp only [Option.bind_some]
        rw [app_in (by simp <;> omega) (by omega)]
        simp only [Option.bind_some]
        rw [app_in (by simp <;> omega) (by omega)]
        simp only [Option.bind_some]
        rw [w64 (by omega), w64 (by omega), w64 (by omega)]
        refine .ret ⟨⟨⟨(by first | omega | (dsimp only; omega)), (by first | omega | (dsimp only; omega))⟩, ?_, ?_, ⟨(by first | omega | (dsimp only; omega)), (by first | omega | (dsimp only; omega))⟩, rfl, rfl, (by first | omega | (dsimp only; omega)), (by first | omega | (dsimp only; omega))⟩, (by first | omega | (dsimp only; omega))⟩
        · simp only [List.length_append, List.length_singleton]; omega
        · simp only [List.length_append, List.length_singleton]; omega
    · simp only [decide_eq_false_iff_not, Int.not_lt] at hc
      exact .ret (by dsimp only; omega)
  · rintro ⟨go, wa⟩ h1
    exact .ret h1
theorem drawConforms {l : List Int} (hl : l.length ≤ 1048576) (hb : ∀ x ∈ l, 0 ≤ x ∧ x ≤ 255) : Tot (spec_DrawConforms l) fun r => r.2.2.length ≤ 41 := by
  unfold spec_DrawConforms
  have h := cur0 hl hb
  refine Tot.then (rate_t (by assumption) (by omega)) ?_
  rintro ⟨r, d, c⟩ ⟨_, hc⟩
  dsimp only at hc ⊢
  refine Tot.then (flow_t (by assumption) (by omega)) ?_
  rintro ⟨f, c_f⟩ ⟨f_p, f_c⟩
  dsimp only at f_p f_c ⊢
  refine Tot.then (shape_t f_p) ?_
  rintro ⟨g, w, ok⟩ hg
  dsimp only at hg ⊢
  refine Tot.then (P := fun _ => True) ?_ ?_
  · cases ok
    · exact .ret trivial
    · refine Tot.then (one_t (by assumption) (by omega)) ?_
      rintro ⟨x, c_x⟩ x_c
      dsimp only at x_c ⊢
      exact .ret trivial
  · intro t _
    refine Tot.cnd (fun hc => ?_) (fun hc => ?_)
    · exact .ret hg
    · exact .ret f_p
theorem drawPass {l : List Int} (hl : l.length ≤ 1048576) (hb : ∀ x ∈ l, 0 ≤ x ∧ x ≤ 255) : Tot (spec_DrawPassThrough l) fun r => r.1.length ≤ 41 := by
  unfold spec_DrawPassThrough
  have h := cur0 hl hb
  refine Tot.then (flow_t (by assumption) (by omega)) ?_
  rintro ⟨f, c_f⟩ ⟨f_p, f_c⟩
  dsimp only at f_p f_c ⊢
  refine Tot.then (among_t (by assumption) (by omega) (by simp)) ?_
  rintro ⟨m, c_m⟩ ⟨m_m, m_c⟩
  dsimp only at m_m m_c ⊢
  exact .ret f_p
theorem passLF_len (l : List Int) (m : Int) : (passLF l m).1.length ≤ l.length ∧ (passLF l m).2.1.length ≤ l.length := by
  unfold passLF
  split
  · have := passF_len m l 0
    dsimp only; omega
  · simp
theorem drawWorst {l : List Int} (hl : l.length ≤ 1048576) (hb : ∀ x ∈ l, 0 ≤ x ∧ x ≤ 255) : Tot (spec_DrawWorstDelay l) fun r => r.1.length ≤ 41 ∧ r.2.length ≤ 41 := by
  unfold spec_DrawWorstDelay
  have h := cur0 hl hb
  refine Tot.then (flow_t (by assumption) (by omega)) ?_
  rintro ⟨f, c_f⟩ ⟨f_p, f_c⟩
  dsimp only at f_p f_c ⊢
  refine Tot.then (pick_t (by assumption) (by omega)) ?_
  rintro ⟨x, c_x⟩ ⟨x_0, x_1, x_c⟩
  dsimp only at x_0 x_1 x_c ⊢
  have x_2 := x_1 (by omega)
  rw [w64 (by omega), sPass (by omega)]
  have hp := passLF_len f (1 + x)
  simp only [Option.bind_some]
  generalize passLF f (1 + x) = p at hp ⊢
  obtain ⟨o, w, ok⟩ := p
  dsimp only at hp ⊢
  refine Tot.then (P := fun r => (r.1 = true → 1 ≤ o.length) ∧ Cur ⟨r.2.1, r.2.2.1, r.2.2.2⟩ 300) ?_ ?_
  · refine Tot.cnd (fun hc => ?_) (fun hc => ?_)
    · simp only [decide_eq_true_eq] at hc
      refine Tot.then (one_t (by assumption) (by omega)) ?_
      rintro ⟨y, c_y⟩ y_c
      dsimp only at y_c ⊢
      exact .ret ⟨fun _ => (by first | omega | (dsimp only; omega)), y_c.mono (by first | omega | (dsimp only; omega))⟩
    · exact .ret ⟨fun h => by simp at h, x_c.mono (by first | omega | (dsimp only; omega))⟩
  · rintro ⟨t, co, a, se⟩ ⟨h3, hc3⟩
    dsimp only at h3 hc3 ⊢
    refine Tot.then (P := fun r => r.length ≤ 41) ?_ ?_
    · refine Tot.cnd (fun hc => ?_) (fun hc => ?_)
      · have := h3 hc
        refine Tot.then (pick_t (by assumption) (by omega)) ?_
        rintro ⟨k, c_k⟩ ⟨k_0, k_1, k_c⟩
        dsimp only at k_0 k_1 k_c ⊢
        have k_2 := k_1 (by omega)
        rw [idx_in k_0 (by omega)]
        simp only [Option.bind_some]
        refine Tot.then (pick_t (by assumption) (by omega)) ?_
        rintro ⟨y, c_y⟩ ⟨y_0, y_1, y_c⟩
        dsimp only at y_0 y_1 y_c ⊢
        exact .ret (by simp only [List.length_set]; omega)
      · exact .ret (by first | omega | (dsimp only; omega))
    · intro o' ho'
      exact .ret ⟨f_p, ho'⟩
theorem number_of {l : List Int} (hl : l.length ≤ 1048576) (hb : ∀ x ∈ l, 0 ≤ x ∧ x ≤ 255) : Tot (laws_numberOf l) fun n => 0 ≤ n ∧ n < 1000003 := by
  unfold laws_numberOf
  refine Tot.then (P := fun n => 0 ≤ n ∧ n < 1000003) (Tot.whl (fun s => l.length - s.2.toNat) (fun s => (0 ≤ s.1 ∧ s.1 < 1000003) ∧ 0 ≤ s.2 ∧ s.2 ≤ l.length) ?_ ⟨⟨(by first | omega | (dsimp only; omega)), (by first | omega | (dsimp only; omega))⟩, (by first | omega | (dsimp only; omega)), (by first | omega | (dsimp only; omega))⟩) (fun n hn => .ret hn)
  rintro ⟨n, k⟩ ⟨h1, h2⟩
  dsimp only at h1 h2 ⊢
  unfold laws_numberOf_l0
  dsimp only
  refine Tot.cnd (fun hc => ?_) (fun hc => ?_)
  · simp only [decide_eq_true_eq] at hc
    have hx := hb _ (List.getElem_mem (show k.toNat < l.length by omega))
    rw [idx_in h2.1 hc]
    simp only [Option.bind_some]
    rw [w64 (x := 31 * n) (by omega), w64 (x := l[k.toNat]) (by omega), w64 (by omega), w64 (by omega), Int.tmod_eq_emod_of_nonneg (by omega)]
    refine .ret ⟨⟨⟨(by first | omega | (dsimp only; omega)), (by first | omega | (dsimp only; omega))⟩, (by first | omega | (dsimp only; omega)), (by first | omega | (dsimp only; omega))⟩, (by first | omega | (dsimp only; omega))⟩
  · exact .ret h1
theorem pureDelays (a b : List Int) (ha : a.length < 2 ^ 47) (hb : b.length < 2 ^ 47) (ka : ∀ x ∈ a, 0 ≤ x ∧ x ≤ 255) (kb : ∀ x ∈ b, 0 ≤ x ∧ x ≤ 255) : laws_FnDelays a b = some true := by
  unfold laws_FnDelays
  rw [w64 (by omega)]
  by_cases h : (1048576 : Int) < (a.length : Int) + (b.length : Int)
  · rw [show decide ((1048576 : Int) < (a.length : Int) + (b.length : Int)) = true by simpa using h]; rfl
  rw [show decide ((1048576 : Int) < (a.length : Int) + (b.length : Int)) = false by simpa using h]
  simp only [cond_false]
  obtain ⟨⟨r, d, l⟩, e1, n1⟩ := drawConforms (l := a) (by omega) ka
  obtain ⟨⟨f, m⟩, e2, n2⟩ := drawPass (l := b) (by omega) kb
  obtain ⟨⟨x, y⟩, e3, n3, n4⟩ := drawWorst (l := b) (by omega) kb
  obtain ⟨q, e4, n5⟩ := number_of (l := b) (by omega) kb
  dsimp only at n1 n2 n3 n4
  simp only [e1, e2, e3, e4, Option.bind_some]
  rw [iCon (by omega), sCon (by omega)]
  simp only [Option.bind_some, beq_self_eq_true, Bool.not_true, cond_false]
  rw [iPass (l := f) (by omega), sPass (l := f) (by omega)]
  simp only [Option.bind_some, beq_self_eq_true]
  have hp := passLF_len f m
  rw [sameI (l := (passLF f m).1) (by omega)]
  simp only [Option.bind_some, cond_true]
  rw [sameI (l := (passLF f m).2.1) (by omega), iWorst (l := x) (by omega) (by omega), sWorst (l := x) (by omega) (by omega)]
  simp only [Option.bind_some, beq_self_eq_true, cond_true]
  by_cases hc : (conF r d l).2 = true ∧ (conF r d l).1 = true
  · have hc0 : (rateB r d && flowB l) = true := by
      have := hc.1
      unfold conF at this
      split at this
      · assumption
      · simp at this
    have hT := hc.2
    unfold conF at hT
    rw [if_pos hc0] at hT
    dsimp only at hT
    rw [hc.1, hc.2]
    simp only [Bool.and_eq_true] at hc0
    obtain ⟨hr, hf⟩ := hc0
    obtain ⟨f1, f2⟩ := flow_iff hf
    unfold rateB at hr
    simp only [Bool.and_eq_true, inB_iff] at hr
    rw [Int.tmod_eq_emod_of_nonneg (by omega), w64 (x := r + q % 10) (by omega), w64 (x := d - 1) (by omega)]
    simp only [cond_true, Option.bind_some]
    have hm : r ≤ r + q % 10 ∧ r + q % 10 ≤ 29 := by omega
    generalize r + q % 10 = m at hm ⊢
    rw [iPass (by omega)]
    have hpass : passLF l m = ((passF m l 0).1, (passF m l 0).2, true) := by
      unfold passLF
      rw [hf, inB_iff.2 ⟨by omega, by omega⟩]; rfl
    have hlen := passF_len m l 0
    rw [hpass]
    simp only [Option.bind_some]
    rw [iWorst (by omega) (by omega)]
    have hw : worstF l (passF m l 0).1 = (lagsF (comeF l 0) (comeF (passF m l 0).1 0) 0, true) := by
      unfold worstF
      rw [hf, dec_t hlen.1, outB_pass m (by omega) l 0 0 0 f2 (by omega) (by omega)]; rfl
    rw [hw, dv_in (by omega) (by omega) (by omega)]
    simp only [Option.bind_some, Bool.not_true, cond_false]
    have hF : okF r d l 0 0 = true := by
      cases l with
      | nil => rfl
      | cons y ys => simp only [okT, Bool.and_eq_true] at hT; exact hT.1
    have hq : 0 ≤ (d - 1) / m := Int.ediv_nonneg (by omega) (by omega)
    have hdm : d - 1 < ((d - 1) / m + 1) * m := Int.lt_ediv_add_one_mul_self _ (by omega)
    have hD : d ≤ ((((d - 1) / m).toNat : Int) + 1) * m := by rw [Int.toNat_of_nonneg hq]; omega
    obtain ⟨k1, k2⟩ := con_pass (D := ((d - 1) / m).toNat) hr.1.1 hm.1 hD l 0 0 0 0 0 0 f2 hT hF (by omega) (by omega) (by omega) (by omega) (by omega)
    rw [Int.toNat_of_nonneg hq] at k2
    rw [dec_f (by omega)]
    simp only [cond_false]
    rw [whl_lg (passF m l 0).2 _ (fun k (_ : Unit) => k) (fun _ x s => if decide (x ≤ d) then .next s else .done (.done (.done false))) (fun _ => .next ()) (fun k hk s => by
      simp only [laws_FnDelays_l0]
      rw [dec_t (by omega), idx_lt hk]
      have := k1 _ (List.getElem_mem hk)
      simp only [cond_true, Option.bind_some]
      rw [dec_f (by omega), dec_t this, w64 (by omega)]
      rfl) (fun s => by simp [laws_FnDelays_l0]) (), lgo_all _ _ (fun _ _ _ => rfl)]
    rw [if_pos (List.all_eq_true.2 fun y hy => dec_t (k1 y hy))]
    rfl
  · cases h2 : (conF r d l).2
    · rfl
    · have : (conF r d l).1 = false := by
        cases h1 : (conF r d l).1
        · rfl
        · exact absurd ⟨h2, h1⟩ hc
      rw [this]; rfl
end Go.VxW
