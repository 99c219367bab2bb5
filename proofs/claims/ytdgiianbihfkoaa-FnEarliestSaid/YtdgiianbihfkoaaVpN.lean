/-
  FnNumbers: what is drawn.
-/
import Derived.Test.YtdgiianbihfkoaaVpC
open Go Go.VS
namespace Go.VxW
theorem number_t {c : L1Cur} {b : Int} (h : Cur c b) (hb : b ≤ 3000000000000000000) : Tot (spec_l1Cur_number c) fun r => R64 r.1 ∧ Cur r.2 (b + 6) := by
  unfold spec_l1Cur_number
  refine Tot.then (one_t (by assumption) (by omega)) ?_
  rintro ⟨x, c_x⟩ x_c
  dsimp only at x_c ⊢
  refine Tot.cnd (fun hc => ?_) (fun hc => ?_)
  · refine Tot.then (among_t (by assumption) (by omega) (by simp)) ?_
    rintro ⟨y, c_y⟩ ⟨y_m, y_c⟩
    dsimp only at y_m y_c ⊢
    refine .ret ⟨?_, y_c.mono (by omega)⟩
    simp at y_m
    unfold R64
    omega
  · refine Tot.then (pick_t (by assumption) (by omega)) ?_
    rintro ⟨y, c_y⟩ ⟨y_0, y_1, y_c⟩
    dsimp only at y_0 y_1 y_c ⊢
    refine Tot.then (among_t (by assumption) (by omega) (by simp)) ?_
    rintro ⟨z, c_z⟩ ⟨z_m, z_c⟩
    dsimp only at z_m z_c ⊢
    refine .ret ⟨r64_wrap _, z_c.mono (by omega)⟩
theorem numbers_t {c : L1Cur} {b : Int} (h : Cur c b) (hb : b ≤ 2000000000000000000) : Tot (spec_l1Cur_numbers c) fun r => (r.1.length ≤ 61 ∧ ∀ x ∈ r.1, R64 x) ∧ Cur r.2 (b + 100) := by
  unfold spec_l1Cur_numbers
  refine Tot.then (pick_t (by assumption) (by omega)) ?_
  rintro ⟨x, c_x⟩ ⟨x_0, x_1, x_c⟩
  dsimp only at x_0 x_1 x_c ⊢
  refine Tot.then (P := fun r => (r.1.length ≤ 61 ∧ ∀ x ∈ r.1, R64 x) ∧ Cur ⟨r.2.1, r.2.2.1, r.2.2.2⟩ (b + 60)) (Tot.whl (fun s => s.2.1.toNat) (fun s => ((0 ≤ s.2.1 ∧ s.2.1 ≤ 8) ∧ s.1.length + s.2.1.toNat ≤ 8 ∧ ∀ x ∈ s.1, R64 x) ∧ Cur ⟨s.2.2.1, s.2.2.2.1, s.2.2.2.2⟩ (b + 2 + 6 * (8 - s.2.1))) ?_ ⟨⟨(by first | omega | (dsimp only; omega)), by simp only [List.length_nil]; omega, by simp⟩, x_c.mono (by first | omega | (dsimp only; omega))⟩) ?_
  · rintro ⟨l, n, co, a, se⟩ ⟨⟨h1, h2, h3⟩, hc0⟩
    dsimp only at h1 h2 h3 hc0 ⊢
    unfold spec_l1Cur_numbers_l0
    dsimp only
    refine Tot.cnd (fun hc => ?_) (fun hc => ?_)
    · simp only [decide_eq_true_eq] at hc
      refine Tot.then (number_t (by assumption) (by omega)) ?_
      rintro ⟨y, c_y⟩ ⟨y_p, y_c⟩
      dsimp only at y_p y_c ⊢
      rw [app_in (by simp <;> omega) (by omega), Option.bind_some, w64 (by omega)]
      refine .ret ⟨⟨⟨(by first | omega | (dsimp only; omega)), by simp only [List.length_append, List.length_singleton]; omega, ?_⟩, y_c.mono (by first | omega | (dsimp only; omega))⟩, (by first | omega | (dsimp only; omega))⟩
      intro z hz
      simp only [List.mem_append, List.mem_singleton] at hz
      rcases hz with hz | rfl
      · exact h3 z hz
      · exact y_p
    · simp only [decide_eq_false_iff_not, Int.not_lt] at hc
      exact .ret ⟨⟨(by first | omega | (dsimp only; omega)), h3⟩, hc0.mono (by first | omega | (dsimp only; omega))⟩
  · rintro ⟨l, co, a, se⟩ ⟨⟨h1, h2⟩, hc0⟩
    dsimp only at h1 h2 hc0 ⊢
    refine Tot.then (one_t (by assumption) (by omega)) ?_
    rintro ⟨y, c_y⟩ y_c
    dsimp only at y_c ⊢
    refine Tot.then (P := fun r => (r.1.length ≤ 61 ∧ ∀ x ∈ r.1, R64 x) ∧ Cur ⟨r.2.1, r.2.2.1, r.2.2.2⟩ (b + 70)) ?_ ?_
    · refine Tot.cnd (fun hc => ?_) (fun hc => ?_)
      · refine Tot.then (pick_t (by assumption) (by omega)) ?_
        rintro ⟨z, c_z⟩ ⟨z_0, z_1, z_c⟩
        dsimp only at z_0 z_1 z_c ⊢
        have := z_1 (by omega)
        rw [w64 (by omega), mkL_in (by omega) (by omega) (by omega)]
        refine .ret ⟨⟨by simp only [List.length_replicate]; omega, fun x hx => ?_⟩, z_c.mono (by omega)⟩
        rw [List.eq_of_mem_replicate hx]
        unfold R64; omega
      · exact .ret ⟨⟨h1, h2⟩, y_c.mono (by omega)⟩
    · rintro ⟨l', co', a', se'⟩ ⟨h3, hc3⟩
      exact .ret ⟨h3, hc3.mono (by first | omega | (dsimp only; omega))⟩
theorem spoilt_t {c : L1Cur} {b : Int} {t w : List UInt8} (h : Cur c b) (hb : b ≤ 2000000000000000000) (hw : 1 ≤ w.length) (ht : t.length ≤ 1000000) : Tot (spec_l1Cur_spoilt c t w) fun r => r.1.length ≤ t.length + 3 ∧ Cur r.2 (b + 40) := by
  unfold spec_l1Cur_spoilt
  refine Tot.then (pick_t (by assumption) (by omega)) ?_
  rintro ⟨x, c_x⟩ ⟨x_0, x_1, x_c⟩
  dsimp only at x_0 x_1 x_c ⊢
  refine Tot.then (P := fun r => r.1.length ≤ t.length + 3 ∧ Cur ⟨r.2.1, r.2.2.1, r.2.2.2⟩ (b + 40)) (Tot.whl (fun s => s.2.1.toNat) (fun s => ((0 ≤ s.2.1 ∧ s.2.1 ≤ 3) ∧ s.1.length + s.2.1 ≤ t.length + 3 ∧ s.1.length ≤ t.length + 3) ∧ Cur ⟨s.2.2.1, s.2.2.2.1, s.2.2.2.2⟩ (b + 2 + 6 * (3 - s.2.1))) ?_ ⟨⟨(by first | omega | (dsimp only; omega)), (by first | omega | (dsimp only; omega)), (by first | omega | (dsimp only; omega))⟩, x_c.mono (by first | omega | (dsimp only; omega))⟩) ?_
  · rintro ⟨l, n, co, a, se⟩ ⟨⟨h1, h2, h3⟩, hc0⟩
    dsimp only at h1 h2 h3 hc0 ⊢
    unfold spec_l1Cur_spoilt_l0
    dsimp only
    refine Tot.then (P := fun r => r = true → 0 < n ∧ 0 < l.length) ?_ ?_
    · refine Tot.cnd (fun hc => ?_) (fun hc => ?_)
      · exact .ret (by simp only [decide_eq_true_eq] at hc ⊢; intro; omega)
      · exact .ret (by simp)
    · intro go hgo
      refine Tot.cnd (fun hc => ?_) (fun hc => ?_)
      · subst hc
        obtain ⟨g1, g2⟩ := hgo rfl
        refine Tot.then (P := fun r => r.1.length ≤ l.length + 1 ∧ Cur ⟨r.2.1, r.2.2.1, r.2.2.2⟩ (b + 2 + 6 * (3 - n) + 6)) ?_ ?_
        · refine Tot.then (pick_t (by assumption) (by omega)) ?_
          rintro ⟨i, c_i⟩ ⟨i_0, i_1, i_c⟩
          dsimp only at i_0 i_1 i_c ⊢
          have i_1 := i_1 (by omega)
          refine Tot.then (pick_t (by assumption) (by omega)) ?_
          rintro ⟨j, c_j⟩ ⟨j_0, j_1, j_c⟩
          dsimp only at j_0 j_1 j_c ⊢
          have j_1 := j_1 (by omega)
          rw [idx_in j_0 j_1, Option.bind_some]
          refine Tot.then (pick_t (by assumption) (by omega)) ?_
          rintro ⟨k, c_k⟩ ⟨k_0, k_1, k_c⟩
          dsimp only at k_0 k_1 k_c ⊢
          have hcat : ∀ (u v : List UInt8), u.length + v.length ≤ 3000000 → cat u v = some (u ++ v) := fun u v h => cat_in (by omega)
          rw [w64 (x := i + 1) (by omega), slc_in (by omega) i_0 (by omega), slc_in i_0 (by omega) (by omega), slc_in (by omega) (by omega) (by omega)]
          simp only [Option.bind_some]
          rw [hcat _ _ (by simp [toStr]; omega)]
          simp only [Option.bind_some]
          rw [hcat _ _ (by simp [toStr]; omega), hcat _ _ (by simp [toStr]; omega), hcat _ _ (by simp; omega)]
          simp only [Option.bind_some]
          refine Tot.then (P := fun r => r.length ≤ l.length + 1) ?_ ?_
          · simp only [Option.bind_fun_some]
            refine Tot.cnd (fun hc => ?_) (fun hc => ?_)
            · exact .ret (by simp [toStr]; omega)
            · refine Tot.cnd (fun hc => ?_) (fun hc => ?_)
              · exact .ret (by simp [toStr]; omega)
              · exact .ret (by simp <;> omega)
          · intro r hr
            exact .ret ⟨hr, k_c.mono (by omega)⟩
        · rintro ⟨l', co', a', se'⟩ ⟨h4, hc4⟩
          dsimp only at h4 hc4 ⊢
          rw [w64 (by omega)]
          exact .ret ⟨⟨⟨(by first | omega | (dsimp only; omega)), (by first | omega | (dsimp only; omega)), (by first | omega | (dsimp only; omega))⟩, hc4.mono (by first | omega | (dsimp only; omega))⟩, (by first | omega | (dsimp only; omega))⟩
      · exact .ret ⟨h3, hc0.mono (by first | omega | (dsimp only; omega))⟩
  · rintro ⟨l, co, a, se⟩ ⟨h1, hc0⟩
    exact .ret ⟨h1, hc0⟩
end Go.VxW
